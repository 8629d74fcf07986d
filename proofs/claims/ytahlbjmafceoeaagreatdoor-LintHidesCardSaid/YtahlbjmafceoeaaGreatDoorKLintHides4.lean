/- Texts of this claim, those in one that belong together; printed by a program of this project. -/
import Derived.Test.YtahlbjmafceoeaaGreatDoorProg
import Derived.Test.YtahlbjmafceoeaaGreatDoorKLintHides3
set_option linter.unusedVariables false
set_option linter.unusedSimpArgs false
set_option maxRecDepth 20000
namespace Go.Proofs.YtahlbjmafceoeaaGreatDoor.Agg
open E Go.RowKit Adr Cid
def wd(V:Int):Nat:=if V=4 then 32 else 128
def wb(V:Int):Nat:=if V=4 then 4 else 16
def fam(V:Int):Prop:=V=4∨V=6
theorem wd_wb(V:Int):wd V=8*wb V:=by unfold wd wb;split<;>rfl
theorem wb_le(V:Int):wb V≤16:=by unfold wb;split<;>omega
theorem wd_le(V:Int):wd V≤128:=by unfold wd;split<;>omega
theorem pow_wb(V:Int):256 ^ wb V=2 ^ wd V:=by rw [wd_wb,Nat.pow_mul]
def bt(V:Int)(N:Nat):List UInt8:=digs (wb V) N++List.replicate (16-wb V) 0
theorem bt_len(V:Int)(N:Nat):(bt V N).length=16:=by
 have:=wb_le V
 unfold bt;rw [List.length_append,digs_length,List.length_replicate];omega
def adr(V:Int)(N:Nat):S_api_Addr:=mkA V (bt V N)
theorem bg_bt(V:Int)(N i:Nat):bg (bt V N) i=if i<wb V then N/256 ^ (wb V-1-i)%256 else 0:=by
 unfold bg bt
 rw [List.getD_eq_getElem?_getD]
 split
 ·next h =>
  rw [List.getElem?_append_left (by rw [digs_length];exact h),digs_get _ _ _ h,Option.getD_some,UInt8.toNat_ofNat',Nat.mod_mod]
 ·next h =>
  rw [List.getElem?_append_right (by rw [digs_length];omega),List.getElem?_replicate]
  split<;>rfl
theorem bg_ext{l k:List UInt8}(hl:l.length=16)(hk:k.length=16)(h:∀ i,i<16→bg l i=bg k i):l=k:=by
 apply List.ext_getElem?
 intro i
 by_cases hi:i<16
 ·have e:=h i hi
  unfold bg at e
  rw [List.getD_eq_getElem?_getD,List.getD_eq_getElem?_getD,List.getElem?_eq_getElem (by omega),List.getElem?_eq_getElem (by omega)] at e
  rw [List.getElem?_eq_getElem (by omega),List.getElem?_eq_getElem (by omega)]
  exact congrArg some (UInt8.toNat_inj.1 e)
 ·rw [List.getElem?_eq_none (by omega),List.getElem?_eq_none (by omega)]
theorem num_bt{V:Int}{N:Nat}(h:N<2 ^ wd V):num (bt V N)=N*256 ^ (16-wb V):=by
 have hz:∀ m,num (List.replicate m 0)=0:=by
  intro m
  induction m with
  | zero=>rfl
  | succ m ih=>rw [List.replicate_succ,num_cons,ih];simp
 unfold bt
 rw [num_append,num_digs _ _ (by rw [pow_wb];exact h),hz,List.length_replicate,Nat.add_zero]
theorem bt_inj{V:Int}{N M:Nat}(hN:N<2 ^ wd V)(hM:M<2 ^ wd V)(h:bt V N=bt V M):N=M:=by
 have:=congrArg num h
 rw [num_bt hN,num_bt hM] at this
 exact Nat.eq_of_mul_eq_mul_right (Nat.pow_pos (by omega)) this
theorem bt_right{V:Int}(hf:fam V)(N:Nat):rightL V (bt V N)=true:=by
 unfold rightL
 rcases hf with rfl | rfl
 ·have:low (bt 4 N)=true:=by
   unfold low bt
   rw [show wb 4=4 from rfl,List.drop_append_of_le_length (by rw [digs_length];exact Nat.le_refl _),List.drop_of_length_le (by rw [digs_length];exact Nat.le_refl _)]
   rfl
  rw [this];rfl
 ·rfl
theorem width_bt{V:Int}(hf:fam V)(N:Nat):widthL V (bt V N)=wd V:=by
 unfold widthL wd
 rw [bt_right hf,if_pos rfl]
theorem right_is{V:Int}{l:List UInt8}(hl:l.length=16)(h:rightL V l=true):fam V∧∃ N,N<2 ^ wd V∧l=bt V N:=by
 rcases right_cases h with rfl | ⟨rfl,hlow⟩
 ·refine ⟨.inr rfl,num l,?_,?_⟩
  ·have:=num_lt l;rw [hl] at this
   rw [←pow_wb];exact this
  ·have:=digs_num l
   rw [hl] at this
   show l=digs 16 (num l)++[]
   rw [List.append_nil,this]
 ·refine ⟨.inl rfl,num (l.take 4),?_,?_⟩
  ·have:=num_lt (l.take 4)
   rw [List.length_take,hl] at this
   rw [←pow_wb];exact this
  ·have h4:=(low_iff hl).1 hlow
   have:=digs_num (l.take 4)
   rw [List.length_take,hl] at this
   show l=digs 4 (num (l.take 4))++List.replicate 12 0
   rw [show digs 4 (num (l.take 4))=l.take 4 from this]
   exact h4
theorem adr_right{V:Int}(hf:fam V)(N:Nat):addr_Right (adr V N)=some true∧crawlwayref10_Right (adr V N)=some true:=by
 unfold adr
 rw [right_code (bt_len V N),right_ref (bt_len V N),bt_right hf];exact ⟨rfl,rfl⟩
theorem adr_width{V:Int}(hf:fam V)(N:Nat):addr_Width (adr V N)=some (wd V:Int)∧crawlwayref10_Width (adr V N)=some (wd V:Int):=by
 unfold adr
 rw [width_code (bt_len V N),width_ref (bt_len V N),width_bt hf];exact ⟨rfl,rfl⟩
theorem adr_inj{V W:Int}{N M:Nat}(hN:N<2 ^ wd V)(hM:M<2 ^ wd W):adr V N=adr W M↔V=W∧N=M:=by
 unfold adr
 rw [mkA_inj (bt_len V N) (bt_len W M)]
 constructor
 ·rintro ⟨rfl,h⟩;exact ⟨rfl,bt_inj hN hM h⟩
 ·rintro ⟨rfl,rfl⟩;exact ⟨rfl,rfl⟩
def ltA(V:Int)(N:Nat)(W:Int)(M:Nat):Bool:=if V=W then decide (N<M) else decide (V<W)
theorem lessL_num(l k:List UInt8)(h:l.length=k.length):lessL l k=decide (num l<num k):=by
 rw [←less_cmp l k h,decide_eq_decide];exact cmp_num l k h
theorem adr_less{V W:Int}{N M:Nat}(hN:N<2 ^ wd V)(hM:M<2 ^ wd W):addr_Less (adr V N) (adr W M)=some (ltA V N W M)∧crawlwayref10_Less (adr V N) (adr W M)=some (ltA V N W M):=by
 have hk:∀ (V:Int) (N:Nat),num (unb (vb (bt V N)).toList)=num (bt V N):=fun V N=>by
  rw [vb_toList (bt_len V N)]
  congr 1
  unfold unb ob
  rw [List.map_map]
  conv=>rhs;rw [←List.map_id (bt V N)]
  apply List.map_congr_left
  intro b _
  show UInt8.ofNat ((b.toNat:Int).toNat)=b
  rw [Int.toNat_natCast];exact UInt8.ofNat_toNat
 have hn:∀ h:V=W,(num (bt V N)<num (bt W M)↔N<M):=fun h=>by
  subst h
  rw [num_bt hN,num_bt hM]
  exact Nat.mul_lt_mul_right (Nat.pow_pos (by omega))
 constructor
 ·rw [less_key]
  unfold lessK ltA adr mkA
  simp only [hk]
  split
  ·next h=>rw [decide_eq_decide.2 (hn h)]
  ·rfl
 ·unfold adr
  rw [less_ref (bt_len V N) (bt_len W M)]
  unfold lessA ltA
  rw [lessL_num _ _ (by rw [bt_len,bt_len])]
  split
  ·next h=>rw [decide_eq_decide.2 (hn h)]
  ·rfl
theorem bit_bt{V:Int}{N i:Nat}(hi:i<wd V):bit (bt V N) i=N/2 ^ (wd V-1-i)%2:=by
 unfold bit
 rw [bg_bt,if_pos (by rw [wd_wb] at hi;omega)]
 have h1:∀ Y t:Nat,t<8→Y%256/2 ^ t%2=Y/2 ^ t%2:=by
  intro Y t ht
  have:t=0∨t=1∨t=2∨t=3∨t=4∨t=5∨t=6∨t=7:=by omega
  rcases this with rfl | rfl | rfl | rfl | rfl | rfl | rfl | rfl<;>omega
 rw [h1 _ _ (by omega),Nat.div_div_eq_div_mul]
 congr 2
 rw [show (256:Nat)=2 ^ 8 from rfl,←Nat.pow_mul,←Nat.pow_add]
 congr 1
 rw [wd_wb] at hi ⊢
 omega
theorem byte_mask(Y t:Nat)(ht:t≤8):(Y/2 ^ t*2 ^ t)%256=Y%256-Y%256%2 ^ t:=by
 have:t=0∨t=1∨t=2∨t=3∨t=4∨t=5∨t=6∨t=7∨t=8:=by omega
 rcases this with rfl | rfl | rfl | rfl | rfl | rfl | rfl | rfl | rfl<;>omega
theorem byte_clear(N c s:Nat):N/2 ^ c*2 ^ c/2 ^ (8*s)%256=N/2 ^ (8*s)%256-N/2 ^ (8*s)%256%2 ^ (min (c-8*s) 8):=by
 by_cases h1:c≤8*s
 ·have e:2 ^ (8*s)=2 ^ c*2 ^ (8*s-c):=by rw [←Nat.pow_add];congr 1;omega
  rw [show min (c-8*s) 8=0 by omega,Nat.pow_zero,Nat.mod_one,Nat.sub_zero,e,←Nat.div_div_eq_div_mul,←Nat.div_div_eq_div_mul,Nat.mul_div_cancel _ (Nat.pow_pos (by omega))]
 ·have e:2 ^ c=2 ^ (8*s)*2 ^ (c-8*s):=by rw [←Nat.pow_add];congr 1;omega
  have e2:N/2 ^ c*2 ^ c/2 ^ (8*s)=N/2 ^ (8*s)/2 ^ (c-8*s)*2 ^ (c-8*s):=by
   rw [Nat.div_div_eq_div_mul,←e]
   generalize N/2 ^ c=A
   rw [e,Nat.mul_comm (2 ^ (8*s)),←Nat.mul_assoc,Nat.mul_div_cancel _ (Nat.pow_pos (by omega))]
  rw [e2]
  generalize N/2 ^ (8*s)=Y
  by_cases h2:c-8*s≤8
  ·rw [Nat.min_eq_left h2];exact byte_mask Y _ h2
  ·rw [Nat.min_eq_right (by omega),show (2:Nat) ^ 8=256 from rfl,Nat.mod_mod,Nat.sub_self]
   have:2 ^ (c-8*s)=256*2 ^ (c-8*s-8):=by rw [show (256:Nat)=2 ^ 8 from rfl,←Nat.pow_add];congr 1;omega
   rw [this,←Nat.mul_assoc,Nat.mul_right_comm]
   exact Nat.mul_mod_left _ _
theorem pow256(s:Nat):256 ^ s=2 ^ (8*s):=by rw [Nat.pow_mul]
theorem mfull_bt{V:Int}{N b:Nat}(hb:b≤wd V):mfull (bt V N) (b:Int)=bt V (N/2 ^ (wd V-b)*2 ^ (wd V-b)):=by
 refine bg_ext (by rw [mfull_len,bt_len]) (bt_len _ _) fun i hi=>?_
 rw [bg_bt]
 have hx:(bt V N)[i]? = some ((bt V N).getD i 0):=by
  rw [List.getD_eq_getElem?_getD,List.getElem?_eq_getElem (by rw [bt_len];exact hi)];rfl
 have hg:=mfull_get (bt V N) (b:Int) i
 rw [hx,Option.map_some] at hg
 rw [bg_get hg,mb_toNat]
 have hbg:((bt V N).getD i 0).toNat=bg (bt V N) i:=rfl
 rw [hbg,bg_bt]
 split
 ·next h =>
  rw [pow256,byte_clear]
  congr 3
  unfold lft
  rw [wd_wb] at hb ⊢
  omega
 ·simp
theorem mask_adr{V:Int}(hf:fam V){N b:Nat}(hb:b≤wd V):crawlwayref10_Mask (adr V N) (b:Int)=some (adr V (N/2 ^ (wd V-b)*2 ^ (wd V-b))):=by
 unfold adr
 rw [mask_ref (bt_len V N)]
 unfold maskA
 rw [bt_right hf,if_pos rfl,mfull_bt hb]
theorem aligned{N c:Nat}(h:2 ^ c ∣ N):N/2 ^ c*2 ^ c=N:=Nat.div_mul_cancel h
def prf(V:Int)(N k:Nat):S_api_Prefix:=mkP (adr V N) ((wd V-k:Nat):Int)
theorem of_adr{V:Int}(hf:fam V){N k:Nat}(hk:k≤wd V)(h:2 ^ k ∣ N):cidr_Of (adr V N) ((wd V-k:Nat):Int)=some (prf V N k,0):=by
 unfold adr
 rw [of_code (bt_len V N)]
 unfold ofP
 rw [bt_right hf,if_pos rfl,if_pos (fits_iff.2 ⟨bt_right hf N,by omega,by rw [width_bt hf];omega⟩),mfull_bt (by omega),show wd V-(wd V-k)=k by omega,aligned h]
 rfl
theorem prf_right{V:Int}(hf:fam V){N k:Nat}(hk:k≤wd V)(h:2 ^ k ∣ N):cidr_Right (prf V N k)=some true∧crawlwayref11_Right (prf V N k)=some true:=by
 have:rightP V (bt V N) ((wd V-k:Nat):Int)=true:=by
  rw [rightP_iff]
  refine ⟨⟨bt_right hf N,by omega,by rw [width_bt hf];omega⟩,?_⟩
  rw [mfull_bt (by omega),show wd V-(wd V-k)=k by omega,aligned h]
 unfold prf adr
 rw [cright_code (bt_len V N),cright_ref (bt_len V N),this];exact ⟨rfl,rfl⟩
theorem right_prf{V b:Int}{l:List UInt8}(hl:l.length=16)(h:rightP V l b=true):fam V∧∃ N k,N<2 ^ wd V∧k≤wd V∧2 ^ k ∣ N∧mkP (mkA V l) b=prf V N k:=by
 obtain ⟨⟨h1,h2,h3⟩,h4⟩:=rightP_iff.1 h
 obtain ⟨hf,N,hN,rfl⟩:=right_is hl h1
 rw [width_bt hf] at h3
 obtain ⟨m,rfl⟩:=Int.eq_ofNat_of_zero_le h2
 have hm:m≤wd V:=by omega
 refine ⟨hf,N,wd V-m,hN,by omega,?_,?_⟩
 ·have h5:mfull (bt V N) (m:Int)=bt V N:=h4
  rw [mfull_bt hm] at h5
  have h6:N/2 ^ (wd V-m)*2 ^ (wd V-m)<2 ^ wd V:=Nat.lt_of_le_of_lt (Nat.div_mul_le_self _ _) hN
  exact ⟨N/2 ^ (wd V-m),by rw [Nat.mul_comm];exact (bt_inj h6 hN h5).symm⟩
 ·unfold prf adr
  rw [show wd V-(wd V-m)=m by omega]
end Go.Proofs.YtahlbjmafceoeaaGreatDoor.Agg
namespace Go.Proofs.YtahlbjmafceoeaaGreatDoor.Agg
open E Go.RowKit Adr Cid
def zA:S_api_Addr:={ f_V:=(0:Int),f_B:=(Vector.replicate 16 (0:Int):(Vector Int 16)) }
theorem set_mkA{V:Int}{l:List UInt8}(hl:l.length=16)(i:Nat)(c:UInt8):({ mkA V l with f_B:=vset (mkA V l).f_B (i:Int) (c.toNat:Int) }:S_api_Addr)=mkA V (l.set i c):=by
 show ({ f_V:=V,f_B:=vset (vb l) (i:Int) (c.toNat:Int) }:S_api_Addr)=_
 rw [vset_vb hl];rfl
theorem get_mkA{V:Int}{l:List UInt8}(hl:l.length=16)(i:Nat)(hi:i<16):vget (mkA V l).f_B (i:Int)=(bg l i:Int):=vget_vb hl i hi
theorem ofNat_toNat{n:Nat}(h:n<256):(UInt8.ofNat n).toNat=n:=by rw [UInt8.toNat_ofNat'];exact Nat.mod_eq_of_lt h
theorem bg_mid(p:List UInt8)(x:UInt8)(t:List UInt8):bg (p++x::t) p.length=x.toNat:=by simp [bg]
theorem set_mid(p:List UInt8)(x y:UInt8)(t:List UInt8):(p++x::t).set p.length y=p++y::t:=by simp
theorem next_loop(V:Int):∀ (i n:Nat) (tl:List UInt8),tl.length=16-i→i≤16→n<256 ^ i →
  aggregate_Next.l0 ((i:Int)-1) (mkA V (digs i n++tl))=some (if n+1<256 ^ i then .ret (mkA V (digs i (n+1)++tl),true) else .nx ()) ∧
  crawlwayref53_Next.l0 ((i:Int)-1) (mkA V (digs i n++tl))=some (if n+1<256 ^ i then .ret (mkA V (digs i (n+1)++tl),true) else .nx ())
 | 0,n,tl,ht,hi,hn=>by
  have hd:decide (((0:Nat):Int)-1≥0)=false:=by decide
  rw [aggregate_Next.l0.eq_def,crawlwayref53_Next.l0.eq_def,hd,if_neg Bool.false_ne_true,if_neg Bool.false_ne_true,if_neg (by simp)];exact ⟨rfl,rfl⟩
 | i+1,n,tl,ht,hi,hn=>by
  have e1:(((i+1:Nat):Int)-1)=(i:Int):=by omega
  have hd:decide ((i:Int)≥0)=true:=decide_eq_true (by omega)
  have hg:(0:Int)≤(i:Int)∧(i:Int)<16:=by omega
  have hp:digs (i+1) n++tl=digs i (n/256)++UInt8.ofNat (n%256)::tl:=by rw [digs,List.append_assoc];rfl
  have hpl:(digs i (n/256)).length=i:=digs_length _ _
  have hl:(digs i (n/256)++UInt8.ofNat (n%256)::tl).length=16:=by rw [List.length_append,List.length_cons,hpl,ht];omega
  have hx:(UInt8.ofNat (n%256)).toNat=n%256:=ofNat_toNat (Nat.mod_lt _ (by omega))
  have hbg:bg (digs i (n/256)++UInt8.ofNat (n%256)::tl) i=n%256:=by
   have:=bg_mid (digs i (n/256)) (UInt8.ofNat (n%256)) tl
   rw [hpl,hx] at this;exact this
  have hset:∀ y,(digs i (n/256)++UInt8.ofNat (n%256)::tl).set i y=digs i (n/256)++y::tl:=fun y=>by
   have:=set_mid (digs i (n/256)) (UInt8.ofNat (n%256)) y tl
   rw [hpl] at this;exact this
  have hwi:wr .i64 ((i:Int)-1)=(i:Int)-1:=wr_i64 (by omega) (by omega)
  rw [Nat.pow_succ] at hn
  rw [e1,hp,aggregate_Next.l0.eq_def,crawlwayref53_Next.l0.eq_def,hd,if_pos rfl,if_pos hg,if_pos hg,if_pos hg,if_pos rfl,if_pos hg,get_mkA hl i (by omega),hbg,hwi]
  by_cases h255:n%256=255
  ·have hw:wr .u8 (((n%256:Nat):Int)+1)=(((0:UInt8).toNat:Nat):Int):=by rw [wr_u8_mod,h255];rfl
   have h0:(0:Int)=(((0:UInt8).toNat:Nat):Int):=rfl
   have hlt:decide (((n%256:Nat):Int)<255)=false:=decide_eq_false (by omega)
   rw [hw,set_mkA hl,hset,hlt,if_neg Bool.false_ne_true,if_pos hg]
   have hl2:(digs i (n/256)++0::tl).length=16:=by rw [List.length_append,List.length_cons,hpl,ht];omega
   have hb0:bg (digs i (n/256)++0::tl) i=0:=by
    have:=bg_mid (digs i (n/256)) 0 tl
    rw [hpl] at this;exact this
   rw [get_mkA hl2 i (by omega),hb0]
   have hne:(((0:Nat):Int) != (0:Int))=false:=rfl
   rw [hne,if_neg Bool.false_ne_true]
   conv=>rhs;lhs;rw [show (0:Int)=(((0:UInt8).toNat:Nat):Int) from rfl]
   rw [set_mkA hl,hset]
   obtain ⟨i1,i2⟩:=next_loop V i (n/256) (0::tl) (by rw [List.length_cons,ht];omega) (by omega) (by omega)
   rw [i1,i2]
   have hd1:digs (i+1) (n+1)++tl=digs i (n/256+1)++0::tl:=by
    rw [digs,show (n+1)/256=n/256+1 by omega,show (n+1)%256=0 by omega,List.append_assoc];rfl
   rw [hd1,Nat.pow_succ]
   have:(n/256+1<256 ^ i)↔(n+1<256 ^ i*256):=by omega
   simp only [this,and_self]
  ·have hb:n%256<255:=by omega
   have hw:wr .u8 (((n%256:Nat):Int)+1)=(((UInt8.ofNat (n%256+1)).toNat:Nat):Int):=by
    rw [wr_u8_mod,ofNat_toNat (by omega)];omega
   have hlt:decide (((n%256:Nat):Int)<255)=true:=decide_eq_true (by omega)
   rw [hw,set_mkA hl,hset,hlt,if_pos rfl,if_pos hg,if_pos hg]
   have hl2:(digs i (n/256)++UInt8.ofNat (n%256+1)::tl).length=16:=by rw [List.length_append,List.length_cons,hpl,ht];omega
   have hb0:bg (digs i (n/256)++UInt8.ofNat (n%256+1)::tl) i=n%256+1:=by
    have:=bg_mid (digs i (n/256)) (UInt8.ofNat (n%256+1)) tl
    rw [hpl,ofNat_toNat (by omega)] at this;exact this
   rw [get_mkA hl2 i (by omega),hb0]
   have hne:(((n%256+1:Nat):Int) != (0:Int))=true:=by rw [bne_iff_ne];omega
   rw [hne,if_pos rfl]
   have hd1:digs (i+1) (n+1)++tl=digs i (n/256)++UInt8.ofNat (n%256+1)::tl:=by
    rw [digs,show (n+1)/256=n/256 by omega,show (n+1)%256=n%256+1 by omega,List.append_assoc];rfl
   rw [hd1,Nat.pow_succ,if_pos (by omega)]
   exact ⟨rfl,rfl⟩
def nx(V:Int)(N:Nat):S_api_Addr×Bool:=if N+1<2 ^ wd V then (adr V (N+1),true) else (zA,false)
theorem next_adr{V:Int}(hf:fam V){N:Nat}(hN:N<2 ^ wd V):aggregate_Next (adr V N)=some (nx V N)∧crawlwayref53_Next (adr V N)=some (nx V N):=by
 obtain ⟨w1,w2⟩:=adr_width hf N
 have hi:wr .i64 ((ishr .i64 (wd V:Int) 3)-1)=(wb V:Int)-1:=by
  have e:=ishr_nat .i64 (wd V) 3 (by decide)
  rw [show ((3:Nat):Int)=3 from rfl] at e
  rw [e,wd_wb,show (8*wb V)/2 ^ 3=wb V by omega]
  exact wr_i64 (by have:=wb_le V;omega) (by have:=wb_le V;omega)
 have hi2:wr .i64 ((wr .i64 (Int.tdiv (wd V:Int) 8))-1)=(wb V:Int)-1:=by
  have e:Int.tdiv (wd V:Int) 8=(wb V:Int):=by rw [wd_wb,Int.tdiv_eq_ediv_of_nonneg (by omega)];omega
  have:=wb_le V
  rw [e,wr_i64 (x:=(wb V:Int)) (by omega) (by omega)]
  exact wr_i64 (by omega) (by omega)
 obtain ⟨l1,l2⟩:=next_loop V (wb V) N (List.replicate (16-wb V) 0) (by rw [List.length_replicate]) (wb_le V) (by rw [pow_wb];exact hN)
 unfold aggregate_Next crawlwayref53_Next
 rw [w1,w2,bindM_some,bindM_some,hi,hi2]
 unfold adr bt at *
 rw [l1,l2,pow_wb,bindM_some]
 unfold nx adr bt
 by_cases h:N+1<2 ^ wd V
 ·rw [if_pos h,if_pos h];exact ⟨rfl,rfl⟩
 ·rw [if_neg h,if_neg h];exact ⟨rfl,rfl⟩
theorem byte_ones(c s:Nat):(2 ^ c-1)/2 ^ (8*s)%256=2 ^ (min (c-8*s) 8)-1:=by
 apply Nat.eq_of_testBit_eq
 intro j
 rw [show (256:Nat)=2 ^ 8 from rfl,Nat.testBit_mod_two_pow,Nat.testBit_div_two_pow,Nat.testBit_two_pow_sub_one,Nat.testBit_two_pow_sub_one]
 rw [Bool.eq_iff_iff,Bool.and_eq_true,decide_eq_true_iff,decide_eq_true_iff,decide_eq_true_iff]
 omega
theorem add_or{N c a:Nat}(h:2 ^ c ∣ N)(ha:a<2 ^ c):N+a=N ||| a:=by
 obtain ⟨m,rfl⟩:=h
 exact Nat.two_pow_add_eq_or_of_lt ha m
theorem byte_or(x y s:Nat):(x ||| y)/2 ^ (8*s)%256=x/2 ^ (8*s)%256 ||| y/2 ^ (8*s)%256:=by
 apply Nat.eq_of_testBit_eq
 intro j
 rw [show (256:Nat)=2 ^ 8 from rfl]
 simp only [Nat.testBit_or,Nat.testBit_mod_two_pow,Nat.testBit_div_two_pow]
 cases decide (j<8)<;>simp
theorem get_bt{V:Int}{N i:Nat}(hi:i<wb V):(bt V N)[i]? = some (UInt8.ofNat (N/2 ^ (8*(wb V-1-i))%256)):=by
 unfold bt
 rw [List.getElem?_append_left (by rw [digs_length];exact hi),digs_get _ _ _ hi,pow256]
theorem last_own{V:Int}{k i:Nat}(hk:k≤wd V)(hi:i<wb V) :
  wr .u64 (if 8<(if wr .i64 (((wd V-k:Nat):Int)-(wr .i64 (8*(i:Int))))<0 then 0 else wr .i64 (((wd V-k:Nat):Int)-(wr .i64 (8*(i:Int))))) then 8 else (if wr .i64 (((wd V-k:Nat):Int)-(wr .i64 (8*(i:Int))))<0 then 0 else wr .i64 (((wd V-k:Nat):Int)-(wr .i64 (8*(i:Int))))))=((8-min (k-8*(wb V-1-i)) 8:Nat):Int):=by
 have hw:=wd_le V
 have hb:=wb_le V
 have hwb:=wd_wb V
 rw [wr_i64 (x:=8*(i:Int)) (by omega) (by omega),wr_i64 (by omega) (by omega)]
 have:(if 8<(if ((wd V-k:Nat):Int)-8*(i:Int)<0 then 0 else ((wd V-k:Nat):Int)-8*(i:Int)) then 8 else (if ((wd V-k:Nat):Int)-8*(i:Int)<0 then 0 else ((wd V-k:Nat):Int)-8*(i:Int)))=((8-min (k-8*(wb V-1-i)) 8:Nat):Int):=by
  split
  ·split at *<;>omega
  ·split<;>omega
 rw [this]
 exact wr_u64 (by omega) (by omega)
theorem last_loop{V:Int}{N k:Nat}(hk:k≤wd V)(h:2 ^ k ∣ N)(b:Int)(hb:b=((wd V-k:Nat):Int))(x:S_api_Prefix)(hx:x.f_Bits=b):∀ (f i:Nat),i+f=wb V →
  aggregate_last.l0 x (wd V:Int) (i:Int) (mkA V ((bt V (N+2 ^ k-1)).take i++(bt V N).drop i))=some (adr V (N+2 ^ k-1))
 | 0,i,hf=>by
  have e:ishr .i64 (wd V:Int) 3=(wb V:Int):=by
   have e:=ishr_nat .i64 (wd V) 3 (by decide)
   rw [show ((3:Nat):Int)=3 from rfl] at e
   rw [e,wd_wb,show (8*wb V)/2 ^ 3=wb V by omega]
  have hd:decide ((i:Int)<ishr .i64 (wd V:Int) 3)=false:=by rw [e];exact decide_eq_false (by omega)
  rw [aggregate_last.l0.eq_def,hd,if_neg Bool.false_ne_true]
  have hi:i=wb V:=by omega
  subst hi
  have:(bt V (N+2 ^ k-1)).take (wb V)++(bt V N).drop (wb V)=bt V (N+2 ^ k-1):=by
   unfold bt
   rw [List.take_append_of_le_length (by rw [digs_length];exact Nat.le_refl _),List.take_of_length_le (by rw [digs_length];exact Nat.le_refl _),List.drop_append_of_le_length (by rw [digs_length];exact Nat.le_refl _),List.drop_of_length_le (by rw [digs_length];exact Nat.le_refl _)]
   rfl
  rw [this];rfl
 | f+1,i,hf=>by
  have e:ishr .i64 (wd V:Int) 3=(wb V:Int):=by
   have e:=ishr_nat .i64 (wd V) 3 (by decide)
   rw [show ((3:Nat):Int)=3 from rfl] at e
   rw [e,wd_wb,show (8*wb V)/2 ^ 3=wb V by omega]
  have hwb:=wb_le V
  have hd:decide ((i:Int)<ishr .i64 (wd V:Int) 3)=true:=by rw [e];exact decide_eq_true (by omega)
  have hg:(0:Int)≤(i:Int)∧(i:Int)<16:=by omega
  have hib:i<wb V:=by omega
  have hA:(bt V (N+2 ^ k-1)).length=(bt V N).length:=by rw [bt_len,bt_len]
  have hl:((bt V (N+2 ^ k-1)).take i++(bt V N).drop i).length=16:=by rw [List.length_append,List.length_take,List.length_drop,bt_len,bt_len];omega
  have hbg:bg ((bt V (N+2 ^ k-1)).take i++(bt V N).drop i) i=N/2 ^ (8*(wb V-1-i))%256:=by
   unfold bg
   rw [List.getD_eq_getElem?_getD,List.getElem?_append_right (by rw [List.length_take,bt_len];omega),List.length_take,bt_len,List.getElem?_drop,show i+(i-min i 16)=i by omega,get_bt hib,Option.getD_some,UInt8.toNat_ofNat',Nat.mod_mod]
  rw [aggregate_last.l0.eq_def,hd,if_pos rfl,if_pos hg,hx,hb,last_own hk hib,if_pos (by omega),if_pos hg,get_mkA hl i (by omega),hbg]
  have hsh:ishr .u8 255 ((8-min (k-8*(wb V-1-i)) 8:Nat):Int)=((2 ^ (min (k-8*(wb V-1-i)) 8)-1:Nat):Int):=by
   have e2:=ishr_nat .u8 255 (8-min (k-8*(wb V-1-i)) 8) (by show _≤8;omega)
   rw [show ((255:Nat):Int)=255 from rfl] at e2
   rw [e2]
   congr 1
   generalize hm:min (k-8*(wb V-1-i)) 8=m
   have:m=0∨m=1∨m=2∨m=3∨m=4∨m=5∨m=6∨m=7∨m=8:=by omega
   rcases this with rfl | rfl | rfl | rfl | rfl | rfl | rfl | rfl | rfl<;>rfl
  have hor:ior .u8 ((N/2 ^ (8*(wb V-1-i))%256:Nat):Int) ((2 ^ (min (k-8*(wb V-1-i)) 8)-1:Nat):Int)=(((UInt8.ofNat ((N+2 ^ k-1)/2 ^ (8*(wb V-1-i))%256)).toNat:Nat):Int):=by
   have hp:2 ^ (min (k-8*(wb V-1-i)) 8)≤2 ^ 8:=Nat.pow_le_pow_right (by omega) (by omega)
   rw [ior_nat .u8 rfl _ _ (by show _<256;omega) (by show _<256;omega),ofNat_toNat (Nat.mod_lt _ (by omega))]
   congr 1
   have hpos:0<2 ^ k:=Nat.pow_pos (by omega)
   rw [←byte_ones,←byte_or,←add_or h (by omega)]
   congr 2
   omega
  rw [hsh,hor,set_mkA hl,set_step _ _ i _ hA (get_bt hib)]
  have hwi:wr .i64 ((i:Int)+1)=((i+1:Nat):Int):=by rw [wr_i64 (by omega) (by omega)];omega
  rw [hwi]
  exact last_loop hk h b hb x hx f (i+1) (by omega)
theorem last_prf{V:Int}(hf:fam V){N k:Nat}(hk:k≤wd V)(h:2 ^ k ∣ N):aggregate_last (prf V N k)=some (adr V (N+2 ^ k-1)):=by
 unfold aggregate_last
 show (addr_Width (adr V N)>>=fun t4=>aggregate_last.l0 (prf V N k) t4 0 (adr V N)>>=fun q5=>some q5)=_
 rw [(adr_width hf N).1,bindM_some]
 have:=last_loop hk h _ rfl (prf V N k) rfl (wb V) 0 (by omega)
 rw [List.take_zero,List.drop_zero,List.nil_append] at this
 show (aggregate_last.l0 (prf V N k) (wd V:Int) ((0:Nat):Int) (mkA V (bt V N))>>=_)=_
 rw [this];rfl
end Go.Proofs.YtahlbjmafceoeaaGreatDoor.Agg
namespace Go.Proofs.YtahlbjmafceoeaaGreatDoor.Agg
open E Go.RowKit Adr Cid
theorem refl1_loop(i:Nat)(hi:i≤1000):∀ (f j n:Nat),j+f=i%8→n<256→crawlwayref53_last.l1 (i:Int) (n:Int) (j:Int)=some ((n/2 ^ f:Nat):Int)
 | 0,j,n,hf,hn=>by
  have e:Int.tmod (i:Int) 8=((i%8:Nat):Int):=by rw [Int.tmod_eq_emod_of_nonneg (by omega)];omega
  rw [crawlwayref53_last.l1.eq_def,e,decide_eq_false (by omega),if_neg Bool.false_ne_true,Nat.pow_zero,Nat.div_one]
 | f+1,j,n,hf,hn=>by
  have e:Int.tmod (i:Int) 8=((i%8:Nat):Int):=by rw [Int.tmod_eq_emod_of_nonneg (by omega)];omega
  have e2:wr .i64 (Int.tdiv (n:Int) 2)=((n/2:Nat):Int):=by
   rw [Int.tdiv_eq_ediv_of_nonneg (by omega),wr_i64 (by omega) (by omega)];omega
  have e3:wr .i64 ((j:Int)+1)=((j+1:Nat):Int):=by rw [wr_i64 (by omega) (by omega)];omega
  rw [crawlwayref53_last.l1.eq_def,e,decide_eq_true (by omega),if_pos rfl,e2,e3,refl1_loop i hi f (j+1) (n/2) (by omega) (by omega),Nat.div_div_eq_div_mul,Nat.pow_succ,Nat.mul_comm 2]
theorem byte_at(e s:Nat):2 ^ e/2 ^ (8*s)%256=if 8*s≤e∧e<8*s+8 then 2 ^ (e-8*s) else 0:=by
 apply Nat.eq_of_testBit_eq
 intro j
 rw [show (256:Nat)=2 ^ 8 from rfl,Nat.testBit_mod_two_pow,Nat.testBit_div_two_pow,Nat.testBit_two_pow]
 split
 ·rw [Nat.testBit_two_pow,Bool.eq_iff_iff,Bool.and_eq_true,decide_eq_true_iff,decide_eq_true_iff,decide_eq_true_iff];omega
 ·rw [Nat.zero_testBit,Bool.eq_iff_iff,Bool.and_eq_true,decide_eq_true_iff,decide_eq_true_iff]
  constructor
  ·rintro ⟨_,_⟩;omega
  ·intro h;cases h
theorem bg_add{V:Int}{X e i:Nat}(hX:2 ^ (e+1) ∣ X)(hi:i<wb V) :
  bg (bt V (X+2 ^ e)) i=if 8*(wb V-1-i)≤e∧e<8*(wb V-1-i)+8 then bg (bt V X) i+2 ^ (e-8*(wb V-1-i)) else bg (bt V X) i:=by
 rw [bg_bt,bg_bt,if_pos hi,if_pos hi,pow256,add_or (c:=e+1) hX (Nat.pow_lt_pow_right (by omega) (by omega)),byte_or,byte_at]
 generalize wb V-1-i=s
 split
 ·next h =>
  have h1:2 ^ (e-8*s+1) ∣ X/2 ^ (8*s)%256:=by
   have h2:2 ^ (e-8*s+1) ∣ X/2 ^ (8*s):=by
    refine (Nat.dvd_div_iff_mul_dvd ?_).2 ?_
    ·exact Nat.dvd_trans (Nat.pow_dvd_pow 2 (by omega)) hX
    ·rw [←Nat.pow_add,show 8*s+(e-8*s+1)=e+1 by omega];exact hX
   refine (Nat.dvd_mod_iff ?_).2 h2
   exact Nat.pow_dvd_pow 2 (show e-8*s+1≤8 by omega)
  exact (add_or h1 (Nat.pow_lt_pow_right (by omega) (by omega))).symm
 ·rw [Nat.or_zero]
theorem reflast_loop{V:Int}{N k:Nat}(hk:k≤wd V)(h:2 ^ k ∣ N):∀ (f i:Nat),i+f=wd V→wd V-k≤i →
  crawlwayref53_last.l0 (wd V:Int) (i:Int) (adr V (N+2 ^ k-2 ^ (wd V-i)))=some (adr V (N+2 ^ k-1))
 | 0,i,hf,hi=>by
  have hw:=wd_le V
  rw [crawlwayref53_last.l0.eq_def,decide_eq_false (by omega),if_neg Bool.false_ne_true,show wd V-i=0 by omega,Nat.pow_zero]
 | f+1,i,hf,hi=>by
  have hw:=wd_le V
  have hwb:=wd_wb V
  have hb:=wb_le V
  have hd:decide ((i:Int)<(wd V:Int))=true:=decide_eq_true (by omega)
  have e8:wr .i64 (Int.tdiv (i:Int) 8)=((i/8:Nat):Int):=by rw [Int.tdiv_eq_ediv_of_nonneg (by omega),wr_i64 (by omega) (by omega)];omega
  have hg:(0:Int)≤((i/8:Nat):Int)∧((i/8:Nat):Int)<16:=by omega
  have hl1:=refl1_loop i (by omega) (i%8) 0 128 (by omega) (by omega)
  have hl1':crawlwayref53_last.l1 (i:Int) 128 0=some ((128/2 ^ (i%8):Nat):Int):=hl1
  obtain ⟨e,he⟩:∃ e,e=wd V-1-i:=⟨_,rfl⟩
  have hpe:2 ^ (wd V-i)=2 ^ e+2 ^ e:=by rw [show wd V-i=e+1 by omega,Nat.pow_succ];omega
  have hle:2 ^ (wd V-i)≤2 ^ k:=Nat.pow_le_pow_right (by omega) (by omega)
  have hX:2 ^ (e+1) ∣ N+2 ^ k-2 ^ (wd V-i):=by
   rw [show e+1=wd V-i by omega]
   refine Nat.dvd_sub ?_ (Nat.dvd_refl _)
   exact Nat.dvd_add (Nat.dvd_trans (Nat.pow_dvd_pow 2 (by omega)) h) (Nat.pow_dvd_pow 2 (by omega))
  have hnext:N+2 ^ k-2 ^ (wd V-(i+1))=N+2 ^ k-2 ^ (wd V-i)+2 ^ e:=by
   rw [hpe,show wd V-(i+1)=e by omega];omega
  rw [crawlwayref53_last.l0.eq_def,hd,if_pos rfl,hl1',bindM_some,e8,if_pos hg,if_pos hg]
  generalize hXX:N+2 ^ k-2 ^ (wd V-i)=X at hX hnext
  have hq:i/8<wb V:=by omega
  have hs:8*(wb V-1-i/8)≤e∧e<8*(wb V-1-i/8)+8:=by omega
  have hbit:=bg_add (V:=V) hX hq
  rw [if_pos hs,show e-8*(wb V-1-i/8)=7-i%8 by omega] at hbit
  have h128:128/2 ^ (i%8)=2 ^ (7-i%8):=by
   have:i%8=0∨i%8=1∨i%8=2∨i%8=3∨i%8=4∨i%8=5∨i%8=6∨i%8=7:=by omega
   rcases this with h | h | h | h | h | h | h | h<;>rw [h]<;>rfl
  have hsmall:2 ^ (7-i%8)≤2 ^ 7:=Nat.pow_le_pow_right (by omega) (by omega)
  have hlt:=bg_lt (bt V (X+2 ^ e)) (i/8)
  have hset:({ adr V X with f_B:=vset (adr V X).f_B ((i/8:Nat):Int) (wr .u8 ((vget (adr V X).f_B ((i/8:Nat):Int))+(wr .u8 ((128/2 ^ (i%8):Nat):Int)))) }:S_api_Addr)=adr V (X+2 ^ e):=by
   have hw1:wr .u8 ((128/2 ^ (i%8):Nat):Int)=((2 ^ (7-i%8):Nat):Int):=by rw [h128];clear h128;exact wr_u8 (Int.natCast_nonneg _) (by omega)
   have hgx:vget (adr V X).f_B ((i/8:Nat):Int)=(bg (bt V X) (i/8):Int):=get_mkA (bt_len V X) _ (by omega)
   rw [hw1,hgx]
   have hw2:wr .u8 ((bg (bt V X) (i/8):Int)+((2 ^ (7-i%8):Nat):Int))=(((UInt8.ofNat (bg (bt V (X+2 ^ e)) (i/8))).toNat:Nat):Int):=by
    rw [ofNat_toNat hlt,hbit]
    clear hw1 h128 hl1 hl1'
    generalize 2 ^ (7-i%8)=t at hbit hsmall ⊢
    rw [wr_u8 (by omega) (by omega)];omega
   rw [hw2]
   show ({ mkA V (bt V X) with f_B:=vset (mkA V (bt V X)).f_B ((i/8:Nat):Int) _ }:S_api_Addr)=_
   rw [set_mkA (bt_len V X)]
   unfold adr
   congr 1
   refine bg_ext (by rw [List.length_set,bt_len]) (bt_len _ _) fun j hj=>?_
   by_cases hji:i/8=j
   ·subst hji
    unfold bg
    rw [List.getD_eq_getElem?_getD,List.getElem?_set_self (by rw [bt_len];omega),Option.getD_some]
    exact ofNat_toNat hlt
   ·have:bg ((bt V X).set (i/8) (UInt8.ofNat (bg (bt V (X+2 ^ e)) (i/8)))) j=bg (bt V X) j:=by
     unfold bg
     rw [List.getD_eq_getElem?_getD,List.getElem?_set_ne hji,←List.getD_eq_getElem?_getD]
    rw [this]
    by_cases hjb:j<wb V
    ·rw [bg_add hX hjb,if_neg (by omega)]
    ·rw [bg_bt,bg_bt,if_neg hjb,if_neg hjb]
  rw [hset]
  have hwi:wr .i64 ((i:Int)+1)=((i+1:Nat):Int):=by rw [wr_i64 (by omega) (by omega)];omega
  rw [hwi,←hnext]
  exact reflast_loop hk h f (i+1) (by omega) (by omega)
theorem reflast_prf{V:Int}(hf:fam V){N k:Nat}(hk:k≤wd V)(h:2 ^ k ∣ N):crawlwayref53_last (prf V N k)=some (adr V (N+2 ^ k-1)):=by
 unfold crawlwayref53_last
 show (crawlwayref10_Width (adr V N)>>=fun t4=>crawlwayref53_last.l0 t4 ((wd V-k:Nat):Int) (adr V N)>>=fun q5=>some q5)=_
 rw [(adr_width hf N).2,bindM_some]
 have:=reflast_loop hk h k (wd V-k) (by omega) (Nat.le_refl _)
 rw [show wd V-(wd V-k)=k by omega,Nat.add_sub_cancel] at this
 rw [this];rfl
structure IsG (w N M k:Nat):Prop where
 le:k≤w
 dvd:2 ^ k ∣ N
 fit:N+2 ^ k≤M+1
 top:∀ j,j≤w→2 ^ j ∣ N→N+2 ^ j≤M+1→j≤k
theorem low_loop{V:Int}(hf:fam V){N:Nat}:∀ (f n:Nat),n+f=wd V→2 ^ n ∣ N→∃ z:Nat,aggregate_low.l0 (adr V N) (n:Int) (((wd V:Nat):Int)-1-(n:Int))=some (z:Int)∧z≤wd V∧2 ^ z ∣ N∧(z<wd V→¬ 2 ^ (z+1) ∣ N)
 | 0,n,hn,hd=>by
  refine ⟨n,?_,by omega,hd,by omega⟩
  rw [aggregate_low.l0.eq_def,decide_eq_false (by omega),if_neg Bool.false_ne_true]
 | f+1,n,hn,hd=>by
  have hw:=wd_le V
  have hi:(((wd V:Nat):Int)-1-(n:Int))=((wd V-1-n:Nat):Int):=by omega
  have hbit:addr_Bit (adr V N) ((wd V-1-n:Nat):Int)=some ((N/2 ^ n%2:Nat):Int):=by
   unfold adr
   rw [bit_code (bt_len V N) (by omega),width_bt hf,if_pos (by omega),Int.toNat_natCast,bit_bt (by omega),show wd V-1-(wd V-1-n)=n by omega]
  rw [aggregate_low.l0.eq_def,hi,decide_eq_true (by omega),if_pos rfl,hbit,bindM_some]
  have h2:N/2 ^ n%2=0↔2 ^ (n+1) ∣ N:=by
   obtain ⟨m,rfl⟩:=hd
   rw [Nat.mul_div_cancel_left _ (Nat.pow_pos (by omega)),Nat.pow_succ]
   constructor
   ·intro h;exact Nat.mul_dvd_mul_left _ (Nat.dvd_of_mod_eq_zero h)
   ·intro h;exact Nat.mod_eq_zero_of_dvd (Nat.dvd_of_mul_dvd_mul_left (Nat.pow_pos (by omega)) h)
  by_cases h0:N/2 ^ n%2=0
  ·have hq:(((N/2 ^ n%2:Nat):Int)==0)=true:=by rw [h0];rfl
   have e1:wr .i64 ((n:Int)+1)=((n+1:Nat):Int):=by rw [wr_i64 (by omega) (by omega)];omega
   have e2:wr .i64 (((wd V-1-n:Nat):Int)-1)=((wd V:Nat):Int)-1-((n+1:Nat):Int):=by rw [wr_i64 (by omega) (by omega)];omega
   rw [hq,if_pos rfl,e1,e2]
   exact low_loop hf f (n+1) (by omega) (h2.1 h0)
  ·have hq:(((N/2 ^ n%2:Nat):Int)==0)=false:=by rw [beq_eq_false_iff_ne];omega
   rw [hq,if_neg Bool.false_ne_true]
   exact ⟨n,rfl,by omega,hd,fun _=>fun h=>h0 (h2.2 h)⟩
theorem great_loop{V:Int}(hf:fam V){N M:Nat}(hM:M<2 ^ wd V)(hNM:N≤M):∀ (j:Nat),j≤wd V→2 ^ j ∣ N→(∀ i,i≤wd V→2 ^ i ∣ N→N+2 ^ i≤M+1→i≤j) →
  ∃ k,IsG (wd V) N M k∧aggregate_greatest.l0 (adr V N) (adr V M) ((wd V-j:Nat):Int) (prf V N j)=some (prf V N k)
 | j,hj,hd,ht=>by
  have hw:=wd_le V
  have hpj:0<2 ^ j:=Nat.pow_pos (by omega)
  rw [aggregate_greatest.l0.eq_def,last_prf hf hj hd,bindM_some]
  have hend:N+2 ^ j-1<2 ^ wd V:=by
   have hN:N<2 ^ wd V:=by omega
   obtain ⟨m,rfl⟩:=hd
   have e:2 ^ wd V=2 ^ j*2 ^ (wd V-j):=by rw [←Nat.pow_add];congr 1;omega
   rw [e] at hN ⊢
   have:=Nat.lt_of_mul_lt_mul_left hN
   have h3:2 ^ j*(m+1)≤2 ^ j*2 ^ (wd V-j):=Nat.mul_le_mul_left _ this
   rw [Nat.mul_add,Nat.mul_one] at h3
   omega
  rw [(adr_less hM hend).1,bindM_some]
  unfold ltA
  rw [if_pos rfl]
  by_cases h:M<N+2 ^ j-1
  ·rw [decide_eq_true h,if_pos rfl]
   cases j with
   | zero=>simp at h;omega
   | succ j =>
    have e1:wr .i64 (((wd V-(j+1):Nat):Int)+1)=((wd V-j:Nat):Int):=by rw [wr_i64 (by omega) (by omega)];omega
    have hd':2 ^ j ∣ N:=Nat.dvd_trans (Nat.pow_dvd_pow 2 (by omega)) hd
    rw [e1,of_adr hf (by omega) hd',bindM_some]
    refine great_loop hf hM hNM j (by omega) hd' fun i hi h1 h2=>?_
    have:=ht i hi h1 h2
    have hne:i≠j+1:=fun e=>by subst e;omega
    omega
  ·rw [decide_eq_false h,if_neg Bool.false_ne_true]
   exact ⟨j,⟨hj,hd,by omega,ht⟩,rfl⟩
theorem great_code{V:Int}(hf:fam V){N M:Nat}(hM:M<2 ^ wd V)(hNM:N≤M):∃ k,IsG (wd V) N M k∧aggregate_greatest (adr V N) (adr V M)=some (prf V N k):=by
 have hw:=wd_le V
 obtain ⟨z,hz,hz1,hz2,hz3⟩:=low_loop hf (N:=N) (wd V) 0 (by omega) (by simp)
 have hlow:aggregate_low (adr V N)=some (z:Int):=by
  unfold aggregate_low
  rw [(adr_width hf N).1,bindM_some,wr_i64 (by omega) (by omega)]
  have:(((wd V:Nat):Int)-1-((0:Nat):Int))=((wd V:Nat):Int)-1:=by omega
  rw [this] at hz
  show (aggregate_low.l0 (adr V N) ((0:Nat):Int) _>>=_)=_
  rw [hz];rfl
 have e1:wr .i64 ((wd V:Int)-(z:Int))=((wd V-z:Nat):Int):=by rw [wr_i64 (by omega) (by omega)];omega
 obtain ⟨k,hk,hg⟩:=great_loop hf hM hNM z hz1 hz2 fun i hi h1 _=>by
  rcases Nat.lt_or_ge z i with h | h
  ·exact absurd (Nat.dvd_trans (Nat.pow_dvd_pow 2 h) h1) (hz3 (by omega))
  ·exact h
 refine ⟨k,hk,?_⟩
 unfold aggregate_greatest
 rw [(adr_width hf N).1,bindM_some,hlow,bindM_some,e1,of_adr hf hz1 hz2,bindM_some]
 show (aggregate_greatest.l0 (adr V N) (adr V M) ((wd V-z:Nat):Int) (prf V N z)>>=fun q8=>some q8)=_
 rw [hg];rfl
theorem IsG.uniq{w N M k k':Nat}(h:IsG w N M k)(h':IsG w N M k'):k=k':=Nat.le_antisymm (h'.top k h.le h.dvd h.fit) (h.top k' h'.le h'.dvd h'.fit)
theorem refg_loop{V:Int}(hf:fam V){N M k:Nat}(hM:M<2 ^ wd V)(hg:IsG (wd V) N M k):∀ (f b:Nat),b+f=wd V-k →
  crawlwayref53_Prefixes.l1 (adr V M) (adr V N) (b:Int)=some ((wd V-k:Nat):Int)
 | f,b,hb=>by
  have hw:=wd_le V
  have hk:=hg.le
  have hN:N<2 ^ wd V:=by have:=hg.fit;have:0<2 ^ k:=Nat.pow_pos (by omega);omega
  have hj:wd V-(wd V-b)=b:=by omega
  have hz:({ { ({ f_A:=({ f_V:=(0:Int),f_B:=(Vector.replicate 16 (0:Int):(Vector Int 16)) }:S_api_Addr),f_Bits:=(0:Int) }:S_api_Prefix) with f_A:=adr V N } with f_Bits:=(b:Int) }:S_api_Prefix)=prf V N (wd V-b):=by
   unfold prf mkP;rw [hj]
  have hwi:wr .i64 ((b:Int)+1)=((b+1:Nat):Int):=by rw [wr_i64 (by omega) (by omega)];omega
  rw [crawlwayref53_Prefixes.l1.eq_def,mask_adr hf (by omega),bindM_some,hz,hwi]
  have hMl:N/2 ^ (wd V-b)*2 ^ (wd V-b)<2 ^ wd V:=Nat.lt_of_le_of_lt (Nat.div_mul_le_self _ _) hN
  by_cases hd:2 ^ (wd V-b) ∣ N
  ·have he:decide (adr V (N/2 ^ (wd V-b)*2 ^ (wd V-b))=adr V N)=true:=decide_eq_true (by rw [aligned hd])
   have hpj:0<2 ^ (wd V-b):=Nat.pow_pos (by omega)
   have hend:N+2 ^ (wd V-b)-1<2 ^ wd V:=by
    obtain ⟨m,rfl⟩:=hd
    have e:2 ^ wd V=2 ^ (wd V-b)*2 ^ b:=by rw [←Nat.pow_add];congr 1;omega
    rw [e] at hN ⊢
    have:=Nat.lt_of_mul_lt_mul_left hN
    have h3:2 ^ (wd V-b)*(m+1)≤2 ^ (wd V-b)*2 ^ b:=Nat.mul_le_mul_left _ this
    rw [Nat.mul_add,Nat.mul_one] at h3
    omega
   rw [he,if_neg (by decide),reflast_prf hf (by omega) hd,bindM_some,(adr_less hM hend).2,bindM_some]
   unfold ltA
   rw [if_pos rfl]
   by_cases hlt:M<N+2 ^ (wd V-b)-1
   ·rw [decide_eq_true hlt,if_pos rfl]
    cases f with
    | zero =>
     have:wd V-b=k:=by omega
     rw [this] at hlt
     have:=hg.fit;omega
    | succ f=>exact refg_loop hf hM hg f (b+1) (by omega)
   ·rw [decide_eq_false hlt,if_neg Bool.false_ne_true]
    have:=hg.top (wd V-b) (by omega) hd (by omega)
    rw [show wd V-k=b by omega]
  ·have he:decide (adr V (N/2 ^ (wd V-b)*2 ^ (wd V-b))=adr V N)=false:=by
    refine decide_eq_false fun e=>hd ?_
    have e2:=((adr_inj hMl hN).1 e).2
    exact ⟨N/2 ^ (wd V-b),by rw [Nat.mul_comm];exact e2.symm⟩
   rw [he,if_pos (by decide)]
   cases f with
   | zero =>
    have:wd V-b=k:=by omega
    rw [this] at hd
    exact absurd hg.dvd hd
   | succ f=>exact refg_loop hf hM hg f (b+1) (by omega)
end Go.Proofs.YtahlbjmafceoeaaGreatDoor.Agg
namespace Go.Proofs.YtahlbjmafceoeaaGreatDoor.Agg
open E Go.RowKit Adr Cid
inductive Cov (w M:Nat):Nat→List (Nat×Nat)→Prop
 | last {N k:Nat} (h:IsG w N M k) (e:M<N+2 ^ k):Cov w M N [(N,k)]
 | step {N k:Nat} {L:List (Nat×Nat)} (h:IsG w N M k) (e:N+2 ^ k≤M) (t:Cov w M (N+2 ^ k) L):Cov w M N ((N,k)::L)
theorem max_ex(p:Nat→Prop)(h0:p 0):∀ w,∃ k,k≤w∧p k∧∀ j,j≤w→p j→j≤k
 | 0=>⟨0,Nat.le_refl _,h0,fun j hj _=>hj⟩
 | w+1=>by
  by_cases h:p (w+1)
  ·exact ⟨w+1,Nat.le_refl _,h,fun j hj _=>hj⟩
  ·obtain ⟨k,h1,h2,h3⟩:=max_ex p h0 w
   refine ⟨k,by omega,h2,fun j hj hp=>h3 j ?_ hp⟩
   have:j≠w+1:=fun e=>h (e▸hp)
   omega
theorem isG_ex(w:Nat){N M:Nat}(h:N≤M):∃ k,IsG w N M k:=by
 obtain ⟨k,h1,h2,h3⟩:=max_ex (fun j=>2 ^ j ∣ N∧N+2 ^ j≤M+1) ⟨by simp,by simpa using h⟩ w
 exact ⟨k,h1,h2.1,h2.2,fun j hj a b=>h3 j hj ⟨a,b⟩⟩
theorem covB{w M:Nat}:∀ (j N:Nat),j≤w→2 ^ j ∣ N→N≤M→M+1<N+2 ^ j→∃ L,Cov w M N L∧L.length≤j:=by
 intro j
 induction j using Nat.strongRecOn with
 | ind j ih =>
  intro N hj hd hN hr
  obtain ⟨k,hk⟩:=isG_ex w hN
  have hkj:k<j:=by
   rcases Nat.lt_or_ge k j with h | h
   ·exact h
   ·have:=Nat.pow_le_pow_right (show 0<2 by omega) h
    have:=hk.fit;omega
  by_cases e:M<N+2 ^ k
  ·exact ⟨_,.last hk e,by simp;omega⟩
  ·have hd':2 ^ (k+1) ∣ N:=Nat.dvd_trans (Nat.pow_dvd_pow 2 hkj) hd
   have hnf:¬ N+2 ^ (k+1)≤M+1:=fun h=>by have:=hk.top (k+1) (by omega) hd' h;omega
   rw [Nat.pow_succ] at hnf
   obtain ⟨L,h1,h2⟩:=ih k hkj (N+2 ^ k) (by omega) (Nat.dvd_add hk.dvd (Nat.dvd_refl _)) (by omega) (by omega)
   exact ⟨(N,k)::L,.step hk (show N+2 ^ k≤M by omega) h1,by rw [List.length_cons];omega⟩
theorem covA{w M:Nat}(hM:M<2 ^ w):∀ (f j N:Nat),j+f=w→2 ^ j ∣ N→N≤M→∃ L,Cov w M N L∧L.length≤f+w+1:=by
 intro f
 induction f using Nat.strongRecOn with
 | ind f ih =>
  intro j N hf hd hN
  obtain ⟨k,hk⟩:=isG_ex w hN
  by_cases hs:M+1<N+2 ^ j
  ·obtain ⟨L,h1,h2⟩:=covB (w:=w) (M:=M) j N (by omega) hd hN hs
   exact ⟨L,h1,by omega⟩
  ·have hjk:=hk.top j (by omega) hd (by omega)
   by_cases e:M<N+2 ^ k
   ·exact ⟨_,.last hk e,by simp⟩
   ·have hkw:k<w:=by
     rcases Nat.lt_or_ge k w with h | h
     ·exact h
     ·have:=Nat.pow_le_pow_right (show 0<2 by omega) h;omega
    by_cases h2:2 ^ (k+1) ∣ N
    ·have hnf:¬ N+2 ^ (k+1)≤M+1:=fun h=>by have:=hk.top (k+1) (by omega) h2 h;omega
     rw [Nat.pow_succ] at hnf
     obtain ⟨L,h3,h4⟩:=covB (w:=w) (M:=M) k (N+2 ^ k) (by omega) (Nat.dvd_add hk.dvd (Nat.dvd_refl _)) (by omega) (by omega)
     exact ⟨(N,k)::L,.step hk (show N+2 ^ k≤M by omega) h3,by rw [List.length_cons];omega⟩
    ·have h3:2 ^ (k+1) ∣ N+2 ^ k:=by
      obtain ⟨m,hm⟩:=hk.dvd
      have hodd:m%2=1:=by
       rcases Nat.mod_two_eq_zero_or_one m with h | h
       ·exfalso;apply h2
        rw [hm,Nat.pow_succ]
        exact Nat.mul_dvd_mul_left _ (Nat.dvd_of_mod_eq_zero h)
       ·exact h
      rw [hm,Nat.pow_succ,show 2 ^ k*m+2 ^ k=2 ^ k*(m+1) by rw [Nat.mul_add,Nat.mul_one]]
      exact Nat.mul_dvd_mul_left _ (Nat.dvd_of_mod_eq_zero (by omega))
     obtain ⟨L,h4,h5⟩:=ih (w-(k+1)) (by omega) (k+1) (N+2 ^ k) (by omega) h3 (by omega)
     exact ⟨(N,k)::L,.step hk (show N+2 ^ k≤M by omega) h4,by rw [List.length_cons];omega⟩
theorem cov_ex{w M N:Nat}(hM:M<2 ^ w)(hN:N≤M):∃ L,Cov w M N L∧L.length≤w+w+1:=covA hM w 0 N (by omega) (by simp) hN
theorem Cov.uniq{w M N:Nat}{L L':List (Nat×Nat)}(h:Cov w M N L):Cov w M N L'→L=L':=by
 induction h generalizing L' with
 | last h e =>
  intro h'
  cases h' with
  | last h2 e2=>rw [h.uniq h2]
  | step h2 e2 t2=>have:=h.uniq h2;subst this;omega
 | step h e t ih =>
  intro h'
  cases h' with
  | last h2 e2=>have:=h.uniq h2;subst this;omega
  | step h2 e2 t2=>have:=h.uniq h2;subst this;rw [ih t2]
def toP(V:Int)(L:List (Nat×Nat)):List S_api_Prefix:=L.map fun p=>prf V p.1 p.2
theorem toP_cons(V:Int)(N k:Nat)(L:List (Nat×Nat)):toP V ((N,k)::L)=prf V N k::toP V L:=rfl
theorem prf_lit(V:Int)(N k:Nat):({ { ({ f_A:=({ f_V:=(0:Int),f_B:=(Vector.replicate 16 (0:Int):(Vector Int 16)) }:S_api_Addr),f_Bits:=(0:Int) }:S_api_Prefix) with f_A:=adr V N } with f_Bits:=((wd V-k:Nat):Int) }:S_api_Prefix)=prf V N k:=rfl
theorem pref_loop{V:Int}(hf:fam V){M:Nat}(hM:M<2 ^ wd V)(x:S_aggregate_Range)(hx:x.f_To=adr V M){N:Nat}{L:List (Nat×Nat)}(h:Cov (wd V) M N L):∀ (out:List S_api_Prefix),out.length+L.length≤1000000 →
  aggregate_Prefixes.l0 x out (adr V N)=some (out++toP V L)∧crawlwayref53_Prefixes.l0 (adr V M) out (adr V N)=some (out++toP V L):=by
 induction h with
 | @last N k h e =>
  intro out ho
  have hk:=h.le
  have hp:0<2 ^ k:=Nat.pow_pos (by omega)
  have hfit:=h.fit
  obtain ⟨k',h',hg⟩:=great_code hf hM (show N≤M by omega)
  have:=h.uniq h';subst this
  have hr:=refg_loop hf hM h (wd V-k) 0 (by omega)
  have hend:N+2 ^ k-1=M:=by omega
  obtain ⟨n1,n2⟩:=next_adr hf hM
  have hlen:out.length+1≤1000000:=by simpa using ho
  rw [aggregate_Prefixes.l0.eq_def,crawlwayref53_Prefixes.l0.eq_def,hx,hg,bindM_some,show (0:Int)=((0:Nat):Int) from rfl,hr,bindM_some,if_pos (by omega),if_pos (by omega),last_prf hf hk h.dvd,bindM_some,prf_lit,reflast_prf hf hk h.dvd,bindM_some,hend,n1,n2,bindM_some,bindM_some]
  unfold nx
  by_cases hl:M+1<2 ^ wd V
  ·rw [if_pos hl,if_neg (by simp),if_neg (by simp)]
   obtain ⟨l1,l2⟩:=adr_less hM (W:=V) hl
   rw [l1,l2,bindM_some,bindM_some]
   unfold ltA
   rw [if_pos rfl,decide_eq_true (by omega),if_pos rfl,if_pos rfl]
   exact ⟨rfl,rfl⟩
  ·rw [if_neg hl,if_pos (by simp),if_pos (by simp)]
   exact ⟨rfl,rfl⟩
 | @step N k L h e t ih =>
  intro out ho
  have hk:=h.le
  have hp:0<2 ^ k:=Nat.pow_pos (by omega)
  have hfit:=h.fit
  obtain ⟨k',h',hg⟩:=great_code hf hM (show N≤M by omega)
  have:=h.uniq h';subst this
  have hr:=refg_loop hf hM h (wd V-k) 0 (by omega)
  have hN1:N+2 ^ k-1<2 ^ wd V:=by omega
  have hN2:N+2 ^ k-1+1=N+2 ^ k:=by omega
  have hN3:N+2 ^ k<2 ^ wd V:=by omega
  obtain ⟨n1,n2⟩:=next_adr hf hN1
  have hlen:out.length+(L.length+1)≤1000000:=by simpa using ho
  rw [aggregate_Prefixes.l0.eq_def,crawlwayref53_Prefixes.l0.eq_def,hx,hg,bindM_some,show (0:Int)=((0:Nat):Int) from rfl,hr,bindM_some,if_pos (by omega),if_pos (by omega),last_prf hf hk h.dvd,bindM_some,prf_lit,reflast_prf hf hk h.dvd,bindM_some,n1,n2,bindM_some,bindM_some]
  unfold nx
  rw [hN2,if_pos hN3,if_neg (by simp),if_neg (by simp)]
  obtain ⟨l1,l2⟩:=adr_less hM (W:=V) hN3
  rw [l1,l2,bindM_some,bindM_some]
  unfold ltA
  rw [if_pos rfl,decide_eq_false (by omega),if_neg (by decide),if_neg (by decide)]
  obtain ⟨i1,i2⟩:=ih (out++[prf V N k]) (by simp;omega)
  rw [i1,i2,toP_cons,List.append_assoc]
  exact ⟨rfl,rfl⟩
def rng(V:Int)(N M:Nat):S_aggregate_Range:=⟨adr V N,adr V M⟩
theorem rright{V W:Int}(hf:fam V)(hg:fam W){N M:Nat}(hN:N<2 ^ wd V)(hM:M<2 ^ wd W):aggregate_Right ⟨adr V N,adr W M⟩=some (decide (V=W)&&!ltA W M V N)∧crawlwayref53_Right (adr V N) (adr W M)=some (decide (V=W)&&!ltA W M V N):=by
 obtain ⟨a1,a2⟩:=adr_right hf N
 obtain ⟨b1,b2⟩:=adr_right hg M
 obtain ⟨l1,l2⟩:=adr_less hM hN
 unfold aggregate_Right crawlwayref53_Right
 show (addr_Right (adr V N)>>=fun t2=>if t2=true then (addr_Right (adr W M)>>=fun t4=>if t4=true then (if (V==W)=true then (addr_Less (adr W M) (adr V N)>>=fun t7=>some (!t7)) else (some false)) else (some false)) else (some false))=_∧(crawlwayref10_Right (adr V N)>>=fun t3=>if t3=true then (crawlwayref10_Right (adr W M)>>=fun t5=>if t5=true then (if (V==W)=true then (crawlwayref10_Less (adr W M) (adr V N)>>=fun t8=>some (!t8)) else (some false)) else (some false)) else (some false))=_
 rw [a1,a2,b1,b2,bindM_some,bindM_some,if_pos rfl,bindM_some,if_pos rfl,if_pos rfl,bindM_some,if_pos rfl,l1,l2]
 by_cases h:V=W
 ·subst h
  simp [bindM_some]
 ·have:(V==W)=false:=by simpa using h
  rw [this,decide_eq_false h]
  exact ⟨rfl,rfl⟩
theorem prefixes_code{V:Int}(hf:fam V){N M:Nat}(hM:M<2 ^ wd V)(hN:N≤M):∃ L,Cov (wd V) M N L∧L.length≤257∧aggregate_Prefixes (rng V N M)=some (toP V L)∧crawlwayref53_Prefixes (adr V N) (adr V M)=some (toP V L):=by
 have hw:=wd_le V
 obtain ⟨L,h1,h2⟩:=cov_ex hM hN
 refine ⟨L,h1,by omega,?_⟩
 obtain ⟨r1,r2⟩:=rright hf hf (show N<2 ^ wd V by omega) hM
 obtain ⟨p1,p2⟩:=pref_loop hf hM (rng V N M) rfl h1 [] (by simp;omega)
 unfold aggregate_Prefixes crawlwayref53_Prefixes rng at *
 have hr:(decide (V=V)&&!ltA V M V N)=true:=by
  unfold ltA
  rw [if_pos rfl,decide_eq_true rfl,decide_eq_false (by omega)];rfl
 rw [r1,r2,bindM_some,bindM_some,hr,if_neg (by decide),if_neg (by decide)]
 rw [List.nil_append] at p1 p2
 rw [p1,p2]
 exact ⟨rfl,rfl⟩
end Go.Proofs.YtahlbjmafceoeaaGreatDoor.Agg
namespace Go.Proofs.YtahlbjmafceoeaaGreatDoor.Agg
open E Go.RowKit Adr Cid
theorem lget_mid{α:Type}[Inhabited α](A:List α)(x:α)(B:List α):lget (A++x::B) (A.length:Int)=x:=by simp [lget]
theorem in_mid{α:Type}(A:List α)(x:α)(B:List α):(0:Int)≤(A.length:Int)∧(A.length:Int)<((A++x::B).length:Int):=by simp;omega
theorem wr_mid{α:Type}(A:List α)(x:α)(h:A.length≤1000000):wr .i64 ((A.length:Int)+1)=((A++[x]).length:Int):=by rw [wr_i64 (by omega) (by omega)];simp
theorem not_lt_end{α:Type}(A:List α):decide ((A.length:Int)<((A++[]).length:Int))=false:=by simp
def rgt(x:S_api_Prefix):Bool:=(cidr_Right x).getD false
theorem idx_loop(p:S_api_Prefix→Bool):∀ (B A:List S_api_Prefix),(∀ x∈A++B,aggregate_Ranges_1 x=some (!p x))→(A++B).length≤1000000 →
  (∃ (C:List S_api_Prefix) (y:S_api_Prefix) (D:List S_api_Prefix),B=C++y::D∧(∀ x∈C,p x=true)∧p y=false∧slices_IndexFunc_api_Prefix__aggregate_Ranges_1.l0 (A++B) (A.length:Int)=some (.ret ((A++C).length:Int))) ∨
  ((∀ x∈B,p x=true)∧slices_IndexFunc_api_Prefix__aggregate_Ranges_1.l0 (A++B) (A.length:Int)=some (.nx ()))
 | [],A,hp,hn=>by
  right
  refine ⟨fun x hx=>(by cases hx),?_⟩
  rw [slices_IndexFunc_api_Prefix__aggregate_Ranges_1.l0.eq_def,not_lt_end,if_neg Bool.false_ne_true]
 | b::B,A,hp,hn=>by
  rw [slices_IndexFunc_api_Prefix__aggregate_Ranges_1.l0.eq_def,decide_eq_true (in_mid A b B).2,if_pos rfl,if_pos (in_mid A b B),lget_mid,hp b (by simp),bindM_some]
  cases h:p b with
  | false =>
   left
   refine ⟨[],b,B,rfl,fun x hx=>(by cases hx),h,?_⟩
   rw [if_pos (show (!false)=true from rfl),List.append_nil]
  | true =>
   rw [if_neg (by decide),wr_mid A b (by simp at hn;omega)]
   have e:A++b::B=(A++[b])++B:=by simp
   rw [e]
   rcases idx_loop p B (A++[b]) (by rw [←e];exact hp) (by rw [←e];exact hn) with ⟨C,y,D,h1,h2,h3,h4⟩ | ⟨h1,h2⟩
   ·left
    refine ⟨b::C,y,D,by rw [h1];rfl,fun x hx=>?_,h3,by rw [h4];simp⟩
    rcases List.mem_cons.1 hx with rfl | hx
    ·exact h
    ·exact h2 x hx
   ·right
    refine ⟨fun x hx=>?_,h2⟩
    rcases List.mem_cons.1 hx with rfl | hx
    ·exact h
    ·exact h1 x hx
theorem del_loop(p:S_api_Prefix→Bool):∀ (B W G:List S_api_Prefix),(∀ x∈B,aggregate_Ranges_1 x=some (!p x))→(W++(G++B)).length≤1000000→0<G.length →
  ∃ R:List S_api_Prefix,slices_DeleteFunc_api_Prefix__aggregate_Ranges_1.l0 (W++(G++B)) (W.length:Int) ((W.length+G.length:Nat):Int)=some (W++(B.filter p)++R,((W++B.filter p).length:Int))∧(W++B.filter p++R).length=(W++(G++B)).length
 | [],W,G,hp,hn,hg=>by
  refine ⟨G,?_,by simp⟩
  rw [slices_DeleteFunc_api_Prefix__aggregate_Ranges_1.l0.eq_def,decide_eq_false (by simp),if_neg Bool.false_ne_true]
  simp
 | b::B,W,G,hp,hn,hg=>by
  obtain ⟨g,G,rfl⟩:∃ g G',G=g::G':=by
   cases G with
   | nil=>cases hg
   | cons g G=>exact ⟨g,G,rfl⟩
  have e1:W++(g::G++b::B)=(W++g::G)++b::B:=by simp
  have e2:((W.length+(g::G).length:Nat):Int)=((W++g::G).length:Int):=by simp
  have hl:(W++g::G).length≤1000000:=by simp at hn ⊢;omega
  have hwi:wr .i64 (((W++g::G).length:Int)+1)=((W.length+(g::G).length+1:Nat):Int):=by rw [wr_i64 (by omega) (by omega)];simp
  rw [slices_DeleteFunc_api_Prefix__aggregate_Ranges_1.l0.eq_def,e2,e1,decide_eq_true (in_mid _ b B).2,if_pos rfl,if_pos (in_mid _ b B),lget_mid,hp b (by simp),bindM_some,hwi]
  have hpB:∀ x∈B,aggregate_Ranges_1 x=some (!p x):=fun x hx=>hp x (List.mem_cons_of_mem _ hx)
  cases h:p b with
  | false =>
   rw [if_neg (by decide)]
   obtain ⟨R,h1,h2⟩:=del_loop p B W (g::G++[b]) hpB (by simp at hn ⊢;omega) (by simp)
   refine ⟨R,?_,?_⟩
   ·rw [List.filter_cons_of_neg (by rw [h];decide)]
    rw [←h1]
    have e4:W++g::G++b::B=W++(g::G++[b]++B):=by simp
    have e5:W.length+(g::G).length+1=W.length+(g::G++[b]).length:=by simp;omega
    rw [e4,e5]
   ·rw [List.filter_cons_of_neg (by rw [h];decide),h2];simp
  | true =>
   have hw1:(0:Int)≤(W.length:Int)∧(W.length:Int)<((W++g::G++b::B).length:Int):=by simp;omega
   have hset:lset (W++g::G++b::B) (W.length:Int) b=(W++[b])++((G++[b])++B):=by simp [lset]
   have hw2:wr .i64 ((W.length:Int)+1)=((W++[b]).length:Int):=by rw [wr_i64 (by simp at hn;omega) (by simp at hn;omega)];simp
   rw [if_pos (by decide),if_pos hw1,hset,hw2]
   obtain ⟨R,h1,h2⟩:=del_loop p B (W++[b]) (G++[b]) hpB (by simp at hn ⊢;omega) (by simp)
   refine ⟨R,?_,?_⟩
   ·rw [List.filter_cons_of_pos h]
    have e3:((W.length+(g::G).length+1:Nat):Int)=(((W++[b]).length+(G++[b]).length:Nat):Int):=by simp;omega
    rw [e3,h1];simp
   ·rw [List.filter_cons_of_pos h]
    simp at h2 ⊢;omega
theorem del_code(p:S_api_Prefix→Bool)(xs:List S_api_Prefix)(hp:∀ x∈xs,aggregate_Ranges_1 x=some (!p x))(hn:xs.length≤1000000):slices_DeleteFunc_api_Prefix__aggregate_Ranges_1 xs=some (xs.filter p):=by
 unfold slices_DeleteFunc_api_Prefix__aggregate_Ranges_1 slices_IndexFunc_api_Prefix__aggregate_Ranges_1
 rcases idx_loop p xs [] hp hn with ⟨C,y,D,h1,h2,h3,h4⟩ | ⟨h1,h2⟩
 ·rw [List.nil_append,List.nil_append] at h4
  have h4':slices_IndexFunc_api_Prefix__aggregate_Ranges_1.l0 xs 0=some (.ret (C.length:Int)):=h4
  rw [h4',bindM_some,bindM_some]
  have hne:((C.length:Int) == -1)=false:=by rw [beq_eq_false_iff_ne];omega
  have hCl:C.length<xs.length:=by rw [h1];simp
  have hwi:wr .i64 ((C.length:Int)+1)=((C.length+[y].length:Nat):Int):=by rw [wr_i64 (by omega) (by omega)];simp
  obtain ⟨R,h5,h6⟩:=del_loop p D C [y] (fun x hx=>hp x (by rw [h1];simp [hx])) (by rw [h1] at hn;simpa using hn) (by simp)
  have hfil:xs.filter p=C++D.filter p:=by
   rw [h1,List.filter_append,List.filter_cons_of_neg (by rw [h3];decide),List.filter_eq_self.2 h2]
  show (if ((C.length:Int) == -1)=true then _ else _)=_
  have e:xs=C++([y]++D):=by rw [h1];rfl
  rw [hne,if_neg Bool.false_ne_true,hwi]
  conv=>lhs;lhs;rw [e]
  rw [h5,bindM_some]
  have hq:(C++D.filter p).length≤(C++D.filter p++R).length:=by simp
  have htk:List.take (C++D.filter p).length (C++D.filter p++R)=C++D.filter p:=List.take_left ..
  show (if (0:Int)≤((C++D.filter p).length:Int)∧((C++D.filter p).length:Int)≤((C++D.filter p++R).length:Int)∧_ then _ else none)=_
  rw [if_pos ⟨by omega,by omega,Int.le_refl _⟩]
  show (if (0:Int)≤((C++D.filter p).length:Int)∧((C++D.filter p).length:Int)≤((List.take (Int.toNat ((C++D.filter p).length:Int)) (C++D.filter p++R)++_).length:Int) then some (List.take (Int.toNat ((C++D.filter p).length:Int)) (List.take (Int.toNat ((C++D.filter p).length:Int)) (C++D.filter p++R)++_)) else none)=_
  rw [Int.toNat_natCast,htk,if_pos ⟨by omega,by simp;omega⟩,List.take_left,hfil]
 ·have h2':slices_IndexFunc_api_Prefix__aggregate_Ranges_1.l0 xs 0=some (.nx ()):=h2
  rw [h2',bindM_some]
  show some xs=_
  rw [List.filter_eq_self.2 h1]
theorem lessP_prf{V W:Int}{N M k j:Nat}(hN:N<2 ^ wd V)(hM:M<2 ^ wd W):lessP (prf V N k) (prf W M j)=if V=W∧N=M then decide (((wd V-k:Nat):Int)<((wd W-j:Nat):Int)) else ltA V N W M:=by
 have h1:=(adr_less hN hM).1
 rw [less_key] at h1
 unfold lessP
 show (if adr V N=adr W M then decide (((wd V-k:Nat):Int)<((wd W-j:Nat):Int)) else lessK (adr V N) (adr W M))=_
 simp only [adr_inj hN hM]
 split
 ·rfl
 ·exact Option.some.inj h1
theorem less11{V W:Int}{N M k j:Nat}(hN:N<2 ^ wd V)(hM:M<2 ^ wd W):crawlwayref11_Less (prf V N k) (prf W M j)=some (lessP (prf V N k) (prf W M j)):=by
 rw [lessP_prf hN hM]
 unfold crawlwayref11_Less
 show (if (!decide (adr V N=adr W M))=true then (crawlwayref10_Less (adr V N) (adr W M)>>=fun t4=>some t4) else (some (decide (((wd V-k:Nat):Int)<((wd W-j:Nat):Int)))))=_
 rw [(adr_less hN hM).2,bindM_some]
 by_cases h:V=W∧N=M
 ·rw [if_pos h,decide_eq_true ((adr_inj hN hM).2 h),if_neg (by decide)]
 ·rw [if_neg h,decide_eq_false (mt (adr_inj hN hM).1 h),if_pos (by decide)]
structure Good (t:Int×Nat×Nat):Prop where
 fam:fam t.1
 lt:t.2.1<2 ^ wd t.1
 le:t.2.2≤wd t.1
 dvd:2 ^ t.2.2 ∣ t.2.1
def pf(t:Int×Nat×Nat):S_api_Prefix:=prf t.1 t.2.1 t.2.2
theorem okb_vb{l:List UInt8}(hl:l.length=16):okb (vb l)=true:=by
 unfold okb
 rw [vb_toList hl]
 unfold ob
 rw [List.all_map]
 refine List.all_eq_true.2 fun b _=>?_
 have:=b.toNat_lt
 simp;omega
theorem ok_prf(V:Int)(N k:Nat):okP (prf V N k):=okb_vb (bt_len V N)
theorem right_rows(xs:List S_api_Prefix)(hx:∀ x∈xs,ok_api_Prefix x):∃ p:S_api_Prefix→Bool,(∀ x∈xs,cidr_Right x=some (p x)∧crawlwayref11_Right x=some (p x))∧∃ T:List (Int×Nat×Nat),(∀ t∈T,Good t)∧xs.filter p=T.map pf:=by
 refine ⟨rgt,fun x h=>?_,?_⟩
 ·obtain ⟨V,l,b,rfl,hl,_⟩:=exists_mkP x (hx x h)
  unfold rgt
  rw [cright_code hl,cright_ref hl];exact ⟨rfl,rfl⟩
 ·have hall:∀ x∈xs.filter rgt,∃ t,Good t∧x=pf t:=fun x h=>by
   obtain ⟨h1,h2⟩:=List.mem_filter.1 h
   obtain ⟨V,l,b,rfl,hl,_⟩:=exists_mkP x (hx x h1)
   unfold rgt at h2
   rw [cright_code hl] at h2
   obtain ⟨hf,N,k,a1,a2,a3,a4⟩:=right_prf hl h2
   exact ⟨(V,N,k),⟨hf,a1,a2,a3⟩,a4⟩
  generalize xs.filter rgt=ys at hall
  induction ys with
  | nil=>exact ⟨[],fun t h=>(by cases h),rfl⟩
  | cons y ys ih =>
   obtain ⟨t,h1,h2⟩:=hall y (List.mem_cons_self ..)
   obtain ⟨T,h3,h4⟩:=ih fun x hx=>hall x (List.mem_cons_of_mem _ hx)
   refine ⟨t::T,fun u hu=>?_,by rw [List.map_cons,←h2,←h4]⟩
   rcases List.mem_cons.1 hu with rfl | hu
   ·exact h1
   ·exact h3 u hu
theorem ins_at{α:Type}{lt:α→α→Bool}{x:α}:∀ (A B:List α),(∀ y∈A,lt x y=false)→(∀ y∈B,lt x y=true)→ins lt x (A++B)=A++x::B
 | [],B,_,hb=>by
  cases B with
  | nil=>rfl
  | cons b B=>show (if lt x b=true then x::b::B else b::ins lt x B)=_;rw [if_pos (hb b (List.mem_cons_self ..))];rfl
 | a::A,B,ha,hb=>by
  show (if lt x a=true then x::a::(A++B) else a::ins lt x (A++B))=_
  rw [if_neg (by rw [ha a (List.mem_cons_self ..)];decide),ins_at A B (fun y hy=>ha y (List.mem_cons_of_mem _ hy)) hb];rfl
theorem pos_loop(xs:List S_api_Prefix)(i:Nat)(x:S_api_Prefix)(hi:(0:Int)≤(i:Int)∧(i:Int)<(xs.length:Int))(hx:lget xs (i:Int)=x)(kx:okP x)(out:List S_api_Prefix)(hout:∀ y∈out,okP y∧crawlwayref11_Less x y=some (lessP x y))(hup:Up lessP out)(hn:out.length≤1000000) :
  ∀ (A B:List S_api_Prefix),out=A++B→(∀ y∈B,lessP x y=true)→∃ A' B',out=A'++B'∧crawlwayref53_sorted.l1 xs out (i:Int) (A.length:Int)=some (A'.length:Int)∧ins lessP x out=A'++x::B':=by
 intro A
 induction hA:A.length generalizing A with
 | zero =>
  intro B h1 h2
  have:A=[]:=List.eq_nil_of_length_eq_zero hA
  subst this
  refine ⟨[],B,h1,?_,?_⟩
  ·rw [crawlwayref53_sorted.l1.eq_def,decide_eq_false (by simp),if_neg Bool.false_ne_true];rfl
  ·rw [h1];exact ins_at [] B (fun y hy=>by cases hy) h2
 | succ n ih =>
  intro B h1 h2
  obtain ⟨A',a,rfl⟩:∃ A' a,A=A'++[a]:=⟨A.dropLast,A.getLast (by intro e;subst e;cases hA),(List.dropLast_concat_getLast _).symm⟩
  have hA':A'.length=n:=by simpa using hA
  have e1:out=A'++a::B:=by rw [h1];simp
  have hn2:A'.length+1≤1000000:=by rw [e1] at hn;simp at hn;omega
  have hwi:wr .i64 (((n+1:Nat):Int)-1)=(A'.length:Int):=by rw [wr_i64 (by omega) (by omega)];omega
  have hin:(0:Int)≤(A'.length:Int)∧(A'.length:Int)<(out.length:Int):=by rw [e1];exact in_mid A' a B
  have hga:lget out (A'.length:Int)=a:=by rw [e1];exact lget_mid A' a B
  have ha:=hout a (by rw [e1];simp)
  rw [crawlwayref53_sorted.l1.eq_def,decide_eq_true (by omega),if_pos rfl,if_pos hi,hwi,if_pos hin,hx,hga,ha.2,bindM_some]
  cases hl:lessP x a with
  | true =>
   rw [if_pos rfl,hA']
   exact ih A' hA' (a::B) e1 fun y hy=>by
    rcases List.mem_cons.1 hy with rfl | hy
    ·exact hl
    ·exact h2 y hy
  | false =>
   rw [if_neg Bool.false_ne_true]
   refine ⟨A'++[a],B,h1,by simp [hA'],?_⟩
   rw [h1]
   refine ins_at (A'++[a]) B (fun y hy=>?_) h2
   rcases List.mem_append.1 hy with hy | hy
   ·have hya:lessP a y=false:=by
     have h3:Up lessP (A'++a::B):=e1▸hup
     exact (List.pairwise_append.1 h3).2.2 y hy a (List.mem_cons_self ..)
    exact lessP_swo.ntrans x a y kx ha.1 (hout y (by rw [e1];simp [hy])).1 hl hya
   ·rw [List.mem_singleton.1 hy];exact hl
def IsPf(x:S_api_Prefix):Prop:=∃ t,Good t∧x=pf t
theorem IsPf.ok{x:S_api_Prefix}(h:IsPf x):okP x:=by obtain ⟨t,_,rfl⟩:=h;exact ok_prf _ _ _
theorem IsPf.less{x y:S_api_Prefix}(hx:IsPf x)(hy:IsPf y):crawlwayref11_Less x y=some (lessP x y):=by
 obtain ⟨t,ht,rfl⟩:=hx
 obtain ⟨u,hu,rfl⟩:=hy
 exact less11 ht.lt hu.lt
theorem ins_mem{α:Type}{lt:α→α→Bool}{x y:α}{l:List α}(h:y∈ins lt x l):y=x∨y∈l:=List.mem_cons.1 ((ins_perm lt x l).mem_iff.1 h)
theorem sorted_loop(p:S_api_Prefix→Bool)(xs:List S_api_Prefix)(hn:xs.length≤100000):∀ (B A out:List S_api_Prefix),xs=A++B→(∀ x∈B,crawlwayref11_Right x=some (p x))→(∀ x∈B,p x=true→IsPf x)→(∀ y∈out,IsPf y)→Up lessP out→out.length≤A.length →
  crawlwayref53_sorted.l0 xs out (A.length:Int)=some ((B.filter p).foldl (fun o x=>ins lessP x o) out)
 | [],A,out,hx,hp,hk,ho,hu,hlen=>by
  rw [hx,crawlwayref53_sorted.l0.eq_def,not_lt_end,if_neg Bool.false_ne_true];rfl
 | b::B,A,out,hx,hp,hk,ho,hu,hlen=>by
  have hxl:A.length<xs.length:=by rw [hx];simp
  have hin:(0:Int)≤(A.length:Int)∧(A.length:Int)<(xs.length:Int):=by omega
  have hg:lget xs (A.length:Int)=b:=by rw [hx];exact lget_mid A b B
  have hwi:wr .i64 ((A.length:Int)+1)=((A++[b]).length:Int):=wr_mid A b (by omega)
  have hpB:=fun x hx=>hp x (List.mem_cons_of_mem b hx)
  have hkB:=fun x hx=>hk x (List.mem_cons_of_mem b hx)
  have hxB:xs=(A++[b])++B:=by rw [hx];simp
  have hAl:(A++[b]).length=A.length+1:=by simp
  rw [crawlwayref53_sorted.l0.eq_def,decide_eq_true hin.2,if_pos rfl,if_pos hin,hg,hp b (List.mem_cons_self ..),bindM_some]
  cases h:p b with
  | false =>
   rw [if_pos (by decide),hwi,List.filter_cons_of_neg (by rw [h];decide)]
   exact sorted_loop p xs hn B (A++[b]) out hxB hpB hkB ho hu (by omega)
  | true =>
   have hb:=hk b (List.mem_cons_self ..) h
   obtain ⟨A',B',e1,e2,e3⟩:=pos_loop xs A.length b hin hg hb.ok out (fun y hy=>⟨(ho y hy).ok,hb.less (ho y hy)⟩) hu (by omega) out [] (by simp) (fun y hy=>(by cases hy))
   have hl1:A'.length≤out.length:=by rw [e1];simp
   have hs1:lsub out 0 (A'.length:Int)=A':=by
    unfold lsub
    rw [Int.toNat_natCast,Int.toNat_zero,List.drop_zero,e1,List.take_left]
   have hs2:lsub out (A'.length:Int) (out.length:Int)=B':=by
    unfold lsub
    rw [Int.toNat_natCast,Int.toNat_natCast,List.take_length,e1,List.drop_left]
   have hBl:A'.length+B'.length=out.length:=by rw [e1];simp
   rw [if_neg (by decide),e2,bindM_some,if_pos ⟨Int.le_refl _,by omega,by omega⟩,hs1,if_pos (by simp;omega),if_pos hin,if_pos (by simp;omega),if_pos ⟨by omega,by omega,Int.le_refl _⟩,hs2,if_pos (by simp;omega),hwi]
   have e4:([]:List S_api_Prefix)++A'++[b]++B'=ins lessP b out:=by rw [e3];simp
   rw [e4,List.filter_cons_of_pos h,List.foldl_cons]
   refine sorted_loop p xs hn B (A++[b]) (ins lessP b out) hxB hpB hkB (fun y hy=>?_) (ins_up lessP_swo hb.ok (fun y hy=>(ho y hy).ok) hu) ?_
   ·rcases ins_mem hy with rfl | hy
    ·exact hb
    ·exact ho y hy
   ·have:=(ins_perm lessP b out).length_eq
    rw [List.length_cons] at this;omega
theorem sorted_ref(p:S_api_Prefix→Bool)(xs:List S_api_Prefix)(hn:xs.length≤100000)(hp:∀ x∈xs,crawlwayref11_Right x=some (p x))(hk:∀ x∈xs,p x=true→IsPf x):crawlwayref53_sorted xs=some (isort lessP (xs.filter p)):=by
 unfold crawlwayref53_sorted isort
 have:=sorted_loop p xs hn xs [] [] rfl hp hk (fun y hy=>(by cases hy)) List.Pairwise.nil (Nat.le_refl _)
 show (crawlwayref53_sorted.l0 xs [] (([]:List S_api_Prefix).length:Int)>>=_)=_
 rw [this];rfl
theorem sorted_code(p:S_api_Prefix→Bool)(xs:List S_api_Prefix)(hn:xs.length≤100000)(hp:∀ x∈xs,cidr_Right x=some (p x))(hk:∀ x∈xs,p x=true→IsPf x) :
  (slices_Clone_api_Prefix xs>>=fun t1=>slices_DeleteFunc_api_Prefix__aggregate_Ranges_1 t1>>=fun t4=>sort_Prefix t4)=some (isort lessP (xs.filter p)):=by
 unfold slices_Clone_api_Prefix
 rw [if_pos (by omega),bindM_some,del_code p xs (fun x hx=>by unfold aggregate_Ranges_1;rw [hp x hx];rfl) (by omega),bindM_some]
 unfold sort_Prefix
 have hl:(xs.filter p).length≤xs.length:=List.length_filter_le ..
 have hall:((xs.filter p).all fun x=>okb x.f_A.f_B)=true:=List.all_eq_true.2 fun x hx=>by
  obtain ⟨h1,h2⟩:=List.mem_filter.1 hx
  exact (hk x h1 h2).ok
 rw [if_pos ⟨hall,by omega⟩]
end Go.Proofs.YtahlbjmafceoeaaGreatDoor.Agg
namespace Go.Proofs.YtahlbjmafceoeaaGreatDoor.Agg
open E Go.RowKit Adr Cid
theorem allPf{l:List S_api_Prefix}(h:∀ x∈l,IsPf x):∃ T:List (Int×Nat×Nat),(∀ t∈T,Good t)∧l=T.map pf:=by
 induction l with
 | nil=>exact ⟨[],fun t h=>(by cases h),rfl⟩
 | cons y ys ih =>
  obtain ⟨t,h1,h2⟩:=h y (List.mem_cons_self ..)
  obtain ⟨T,h3,h4⟩:=ih fun x hx=>h x (List.mem_cons_of_mem _ hx)
  refine ⟨t::T,fun u hu=>?_,by rw [List.map_cons,←h2,←h4]⟩
  rcases List.mem_cons.1 hu with rfl | hu
  ·exact h1
  ·exact h3 u hu
abbrev Rg:=Int×Nat×Nat
structure GoodR (r:Rg):Prop where
 fam:fam r.1
 le:r.2.1≤r.2.2
 lt:r.2.2<2 ^ wd r.1
def toR(r:Rg):S_aggregate_Range:=rng r.1 r.2.1 r.2.2
def toV(r:Rg):Vector S_api_Addr 2:=vset (vset (Vector.replicate 2 zA:Vector S_api_Addr 2) 0 (adr r.1 r.2.1)) 1 (adr r.1 r.2.2)
theorem toV0(r:Rg):vget (toV r) 0=adr r.1 r.2.1:=rfl
theorem toV1(r:Rg):vget (toV r) 1=adr r.1 r.2.2:=rfl
theorem vset_toV(r:Rg)(m:Nat):vset (toV r) 1 (adr r.1 m)=toV (r.1,r.2.1,m):=by
 apply Vector.toList_inj.1
 unfold toV
 simp [vset_toList]
def endT(t:Int×Nat×Nat):Nat:=t.2.1+2 ^ t.2.2-1
theorem Good.end_lt{t:Int×Nat×Nat}(h:Good t):endT t<2 ^ wd t.1:=by
 obtain ⟨V,N,k⟩:=t
 obtain ⟨hf,hN,hk,hd⟩:=h
 simp only at hf hN hk hd
 unfold endT
 simp only
 obtain ⟨m,rfl⟩:=hd
 have hp:0<2 ^ k:=Nat.pow_pos (by omega)
 have e:2 ^ wd V=2 ^ k*2 ^ (wd V-k):=by rw [←Nat.pow_add];congr 1;omega
 rw [e] at hN ⊢
 have h1:=Nat.lt_of_mul_lt_mul_left hN
 have h3:2 ^ k*(m+1)≤2 ^ k*2 ^ (wd V-k):=Nat.mul_le_mul_left _ h1
 rw [Nat.mul_add,Nat.mul_one] at h3
 omega
theorem le_endT(t:Int×Nat×Nat):t.2.1≤endT t:=by
 have hp:0<2 ^ t.2.2:=Nat.pow_pos (by omega)
 unfold endT;omega
def stepR:List Rg→Int×Nat×Nat→List Rg
 | [],t=>[(t.1,t.2.1,endT t)]
 | r::rest,t=>if r.1=t.1∧t.2.1≤r.2.2+1 then (r.1,r.2.1,max r.2.2 (endT t))::rest else (t.1,t.2.1,endT t)::r::rest
theorem stepR_nil(t:Int×Nat×Nat):stepR [] t=[(t.1,t.2.1,endT t)]:=rfl
theorem stepR_cons(r:Rg)(rest:List Rg)(t:Int×Nat×Nat):stepR (r::rest) t=if r.1=t.1∧t.2.1≤r.2.2+1 then (r.1,r.2.1,max r.2.2 (endT t))::rest else (t.1,t.2.1,endT t)::r::rest:=rfl
theorem stepR_good{rv:List Rg}{t:Int×Nat×Nat}(h:∀ r∈rv,GoodR r)(ht:Good t):∀ r∈stepR rv t,GoodR r:=by
 have hn:GoodR (t.1,t.2.1,endT t):=⟨ht.fam,le_endT t,ht.end_lt⟩
 cases rv with
 | nil=>intro r hr;rw [List.mem_singleton.1 hr];exact hn
 | cons r rest =>
  intro x hx
  rw [stepR_cons] at hx
  have hr:=h r (List.mem_cons_self ..)
  split at hx
  ·next hc =>
   rcases List.mem_cons.1 hx with rfl | hx
   ·refine ⟨hr.fam,Nat.le_trans hr.le (Nat.le_max_left ..),Nat.max_lt.2 ⟨hr.lt,?_⟩⟩
    show endT t<2 ^ wd r.1
    rw [hc.1];exact ht.end_lt
   ·exact h x (List.mem_cons_of_mem _ hx)
  ·rcases List.mem_cons.1 hx with rfl | hx
   ·exact hn
   ·exact h x hx
theorem stepR_len(rv:List Rg)(t:Int×Nat×Nat):(stepR rv t).length≤rv.length+1:=by
 cases rv with
 | nil=>simp [stepR]
 | cons r rest=>rw [stepR_cons];split<;>simp
theorem last_pf{t:Int×Nat×Nat}(h:Good t):aggregate_last (pf t)=some (adr t.1 (endT t))∧crawlwayref53_last (pf t)=some (adr t.1 (endT t)):=⟨last_prf h.fam h.le h.dvd,reflast_prf h.fam h.le h.dvd⟩
theorem nx_pair{V:Int}{N:Nat}:(nx V N).2=decide (N+1<2 ^ wd V)∧(N+1<2 ^ wd V→(nx V N).1=adr V (N+1)):=by
 unfold nx
 split
 ·next h=>exact ⟨(decide_eq_true h).symm,fun _=>rfl⟩
 ·next h=>exact ⟨(decide_eq_false h).symm,fun h'=>absurd h' h⟩
theorem joins_code{r:Rg}{t:Int×Nat×Nat}(hr:GoodR r)(ht:Good t):aggregate_joins (toR r) (pf t)=some (decide (r.1=t.1∧t.2.1≤r.2.2+1)):=by
 unfold aggregate_joins
 show (if (r.1 != t.1)=true then some false else (aggregate_Next (adr r.1 r.2.2)>>=fun t4=>if (!t4.2)=true then (some true) else (addr_Less t4.1 (adr t.1 t.2.1)>>=fun t7=>some (!t7))))=_
 by_cases h:r.1=t.1
 ·have:(r.1 != t.1)=false:=by simpa using h
  rw [this,if_neg Bool.false_ne_true,(next_adr hr.fam hr.lt).1,bindM_some,nx_pair.1]
  have htl:=ht.lt
  by_cases hl:r.2.2+1<2 ^ wd r.1
  ·rw [decide_eq_true hl,if_neg (by decide),nx_pair.2 hl,(adr_less hl ht.lt).1,bindM_some]
   unfold ltA
   rw [if_pos h]
   congr 1
   rw [Bool.eq_iff_iff];simp [h]
  ·rw [decide_eq_false hl,if_pos (by decide)]
   rw [←h] at htl
   congr 1
   exact (decide_eq_true ⟨h,by omega⟩).symm
 ·have:(r.1 != t.1)=true:=by simpa using h
  rw [this,if_pos rfl,decide_eq_false (fun e=>h e.1)]
theorem pf_A(t:Int×Nat×Nat):(pf t).f_A=adr t.1 t.2.1:=rfl
theorem rng_lit(V:Int)(N M:Nat):({ { ({ f_From:=({ f_V:=(0:Int),f_B:=(Vector.replicate 16 (0:Int):(Vector Int 16)) }:S_api_Addr),f_To:=({ f_V:=(0:Int),f_B:=(Vector.replicate 16 (0:Int):(Vector Int 16)) }:S_api_Addr) }:S_aggregate_Range) with f_From:=adr V N } with f_To:=adr V M }:S_aggregate_Range)=rng V N M:=rfl
theorem toR_To(r:Rg):(toR r).f_To=adr r.1 r.2.2:=rfl
theorem ranges_loop(S:List (Int×Nat×Nat))(hS:S.length≤100000):∀ (B A:List (Int×Nat×Nat)) (rv:List Rg),S=A++B→(∀ t∈B,Good t)→(∀ r∈rv,GoodR r)→rv.length≤A.length →
  aggregate_Ranges.l0 (S.map pf) (rv.reverse.map toR) (A.length:Int)=some ((B.foldl stepR rv).reverse.map toR)∧crawlwayref53_Ranges.l0 (S.map pf) (rv.reverse.map toV) (A.length:Int)=some ((B.foldl stepR rv).reverse.map toV)
 | [],A,rv,hx,hb,hr,hl=>by
  have hd:decide ((A.length:Int)<((S.map pf).length:Int))=false:=decide_eq_false (by rw [hx];simp)
  rw [aggregate_Ranges.l0.eq_def,crawlwayref53_Ranges.l0.eq_def,hd,if_neg Bool.false_ne_true,if_neg Bool.false_ne_true];exact ⟨rfl,rfl⟩
 | t::B,A,rv,hx,hb,hr,hl=>by
  have ht:=hb t (List.mem_cons_self ..)
  have hSl:S.length=A.length+(B.length+1):=by rw [hx];simp
  have hin:(0:Int)≤(A.length:Int)∧(A.length:Int)<((S.map pf).length:Int):=by rw [List.length_map];omega
  have hg:lget (S.map pf) (A.length:Int)=pf t:=by
   rw [hx,List.map_append,List.map_cons]
   have:=lget_mid (A.map pf) (pf t) (B.map pf)
   rwa [List.length_map] at this
  have hwi:wr .i64 ((A.length:Int)+1)=((A++[t]).length:Int):=wr_mid A t (by omega)
  have hxB:S=(A++[t])++B:=by rw [hx];simp
  have hAl:(A++[t]).length=A.length+1:=by simp
  obtain ⟨la,lr⟩:=last_pf ht
  obtain ⟨i1,i2⟩:=ranges_loop S hS B (A++[t]) (stepR rv t) hxB (fun u hu=>hb u (List.mem_cons_of_mem _ hu)) (stepR_good hr ht) (by have:=stepR_len rv t;omega)
  rw [List.foldl_cons,←i1,←i2]
  rw [aggregate_Ranges.l0.eq_def,crawlwayref53_Ranges.l0.eq_def,decide_eq_true hin.2,if_pos rfl,if_pos rfl,if_pos hin,hg,hwi]
  have hV2:∀ (V:Int) (N M:Nat),vset (vset (Vector.replicate 2 ({ f_V:=(0:Int),f_B:=(Vector.replicate 16 (0:Int):(Vector Int 16)) }:S_api_Addr):(Vector S_api_Addr 2)) 0 (adr V N)) 1 (adr V M)=toV (V,N,M):=fun _ _ _=>rfl
  cases rv with
  | nil =>
   have h0:((([]:List Rg).reverse.map toR).length:Int)=0:=rfl
   have h0':((([]:List Rg).reverse.map toV).length:Int)=0:=rfl
   rw [h0,h0',if_pos (by rfl),if_neg (by decide),if_pos hin,if_pos hin,la,lr,bindM_some,bindM_some,if_pos (by decide),if_pos (by decide),pf_A,rng_lit,hV2]
   exact ⟨rfl,rfl⟩
  | cons r rest =>
   have hrg:=hr r (List.mem_cons_self ..)
   have e1:(r::rest).reverse.map toR=rest.reverse.map toR++[toR r]:=by simp
   have e2:(r::rest).reverse.map toV=rest.reverse.map toV++[toV r]:=by simp
   have hL:(rest.reverse.map toR).length=rest.length:=by simp
   have hL2:(rest.reverse.map toV).length=rest.length:=by simp
   have hrl:rest.length+1≤A.length:=by simpa using hl
   have l1:((rest.reverse.map toR++[toR r]).length:Int)=((rest.length+1:Nat):Int):=by simp
   have l2:((rest.reverse.map toV++[toV r]).length:Int)=((rest.length+1:Nat):Int):=by simp
   have hw:wr .i64 (((rest.length+1:Nat):Int)-1)=(rest.length:Int):=by rw [wr_i64 (by omega) (by omega)];omega
   have hi:(0:Int)≤(rest.length:Int)∧(rest.length:Int)<((rest.length+1:Nat):Int):=by omega
   have g1:lget (rest.reverse.map toR++[toR r]) (rest.length:Int)=toR r:=by rw [←hL];exact lget_mid _ _ []
   have g2:lget (rest.reverse.map toV++[toV r]) (rest.length:Int)=toV r:=by rw [←hL2];exact lget_mid _ _ []
   have s1:∀ y,lset (rest.reverse.map toR++[toR r]) (rest.length:Int) y=rest.reverse.map toR++[y]:=fun y=>by rw [←hL];simp [lset]
   have s2:∀ y,lset (rest.reverse.map toV++[toV r]) (rest.length:Int) y=rest.reverse.map toV++[y]:=fun y=>by rw [←hL2];simp [lset]
   have hz:(((rest.length+1:Nat):Int)==0)=false:=by rw [beq_eq_false_iff_ne];omega
   have hz2:decide (((rest.length+1:Nat):Int)>0)=true:=decide_eq_true (by omega)
   have hn1:(rest.reverse.map toR++[toR r]).length+1≤100001:=by simp;omega
   have hn2:(rest.reverse.map toV++[toV r]).length+1≤100001:=by simp;omega
   have hV:(adr r.1 r.2.1).f_V=r.1:=rfl
   have hV3:(adr t.1 t.2.1).f_V=t.1:=rfl
   have hnew1:∀ (V:Int) (N M:Nat),(rest.reverse.map toR++[toR r])++[rng V N M]=((V,N,M)::r::rest).reverse.map toR:=fun V N M=>by simp [toR]
   have hnew2:∀ (V:Int) (N M:Nat),(rest.reverse.map toV++[toV r])++[toV (V,N,M)]=((V,N,M)::r::rest).reverse.map toV:=fun V N M=>by simp
   obtain ⟨n1,n2⟩:=next_adr hrg.fam hrg.lt
   rw [e1,e2,l1,l2,hz,if_neg Bool.false_ne_true,hw,if_pos hi,g1,joins_code hrg ht,bindM_some,hz2,if_pos rfl,if_pos hi,g2,toV1,n2,bindM_some,if_pos hi,if_pos hin,toV0,hV,pf_A,hV3]
   by_cases hj:r.1=t.1∧t.2.1≤r.2.2+1
   ·have hq:(r.1==t.1)=true:=by simpa using hj.1
    have hend:endT t<2 ^ wd r.1:=by rw [hj.1];exact ht.end_lt
    have hle1:=(adr_less hrg.lt (W:=t.1) ht.end_lt)
    have hlt:ltA r.1 r.2.2 t.1 (endT t)=decide (r.2.2<endT t):=by unfold ltA;rw [if_pos hj.1]
    have hst:stepR (r::rest) t=(r.1,r.2.1,max r.2.2 (endT t))::rest:=by rw [stepR_cons,if_pos hj]
    have hadr:adr t.1 (endT t)=adr r.1 (endT t):=by rw [hj.1]
    rw [decide_eq_true hj,if_neg (by decide),la,bindM_some,if_pos hi,toR_To,hle1.1,bindM_some,hlt,hq,if_pos rfl,nx_pair.1,hst]
    have hfin1:(if decide (r.2.2<endT t)=true then (if (0:Int)≤(rest.length:Int)∧(rest.length:Int)<((rest.length+1:Nat):Int) then aggregate_Ranges.l0 (S.map pf) (lset (rest.reverse.map toR++[toR r]) (rest.length:Int) { toR r with f_To:=adr t.1 (endT t) }) ((A++[t]).length:Int) else none) else aggregate_Ranges.l0 (S.map pf) (rest.reverse.map toR++[toR r]) ((A++[t]).length:Int))=aggregate_Ranges.l0 (S.map pf) (((r.1,r.2.1,max r.2.2 (endT t))::rest).reverse.map toR) ((A++[t]).length:Int):=by
     by_cases hc:r.2.2<endT t
     ·rw [decide_eq_true hc,if_pos rfl,if_pos hi,s1,hadr,Nat.max_eq_right (by omega)]
      congr 1
      simp [toR,rng]
     ·rw [decide_eq_false hc,if_neg Bool.false_ne_true,Nat.max_eq_left (by omega)]
      congr 1
      simp
    have hfin2:(if decide (r.2.2<endT t)=true then (if (0:Int)≤(A.length:Int)∧(A.length:Int)<((S.map pf).length:Int) then crawlwayref53_last (pf t)>>=fun t50=>if (0:Int)≤(rest.length:Int)∧(rest.length:Int)<((rest.length+1:Nat):Int) then crawlwayref53_Ranges.l0 (S.map pf) (lset (rest.reverse.map toV++[toV r]) (rest.length:Int) (vset (toV r) 1 t50)) ((A++[t]).length:Int) else none else none) else crawlwayref53_Ranges.l0 (S.map pf) (rest.reverse.map toV++[toV r]) ((A++[t]).length:Int))=crawlwayref53_Ranges.l0 (S.map pf) (((r.1,r.2.1,max r.2.2 (endT t))::rest).reverse.map toV) ((A++[t]).length:Int):=by
     by_cases hc:r.2.2<endT t
     ·rw [decide_eq_true hc,if_pos rfl,if_pos hin,lr,bindM_some,if_pos hi,hadr,vset_toV,s2,Nat.max_eq_right (by omega)]
      congr 1
      simp
     ·rw [decide_eq_false hc,if_neg Bool.false_ne_true,Nat.max_eq_left (by omega)]
      congr 1
      simp
    refine ⟨hfin1,?_⟩
    by_cases hl:r.2.2+1<2 ^ wd r.1
    ·have htl:=ht.lt
     rw [decide_eq_true hl,if_neg (by decide),if_pos hin,nx_pair.2 hl,(adr_less hl ht.lt).2,bindM_some]
     have:ltA r.1 (r.2.2+1) t.1 t.2.1=false:=by unfold ltA;rw [if_pos hj.1,decide_eq_false (by omega)]
     rw [this,if_pos (by decide),if_pos hi,if_pos hin,lr,bindM_some,hle1.2,bindM_some,hlt]
     rw [lr] at hfin2;exact hfin2
    ·rw [decide_eq_false hl,if_pos (by decide),if_pos hi,if_pos hin,lr,bindM_some,hle1.2,bindM_some,hlt]
     rw [lr] at hfin2;exact hfin2
   ·have hst:stepR (r::rest) t=(t.1,t.2.1,endT t)::r::rest:=by rw [stepR_cons,if_neg hj]
    rw [decide_eq_false hj,if_pos (by decide),la,bindM_some,if_pos (by omega),rng_lit,hnew1,hst]
    refine ⟨rfl,?_⟩
    by_cases hq:r.1=t.1
    ·have hq':(r.1==t.1)=true:=by simpa using hq
     have htl:=ht.lt
     have hl:r.2.2+1<2 ^ wd r.1:=by
      rw [hq]
      have:¬ t.2.1≤r.2.2+1:=fun h=>hj ⟨hq,h⟩
      omega
     rw [hq',if_pos rfl,nx_pair.1,decide_eq_true hl,if_neg (by decide),if_pos hin,nx_pair.2 hl,(adr_less hl ht.lt).2,bindM_some]
     have:ltA r.1 (r.2.2+1) t.1 t.2.1=true:=by unfold ltA;rw [if_pos hq];exact decide_eq_true (by have:¬ t.2.1≤r.2.2+1:=fun h=>hj ⟨hq,h⟩;omega)
     rw [this,if_neg (by decide),if_pos hin,if_pos hin,lr,bindM_some,if_pos (by omega),hV2,hnew2]
    ·have hq':(r.1==t.1)=false:=by simpa using hq
     rw [hq',if_neg Bool.false_ne_true,if_pos hin,if_pos hin,lr,bindM_some,if_pos (by omega),hV2,hnew2]
noncomputable def pcs(r:Rg):List (Nat×Nat):=if h:r.2.2<2 ^ wd r.1∧r.2.1≤r.2.2 then Classical.choose (cov_ex (w:=wd r.1) h.1 h.2) else []
theorem pcs_cov{r:Rg}(h:GoodR r):Cov (wd r.1) r.2.2 r.2.1 (pcs r)∧(pcs r).length≤257:=by
 have hw:=wd_le r.1
 unfold pcs
 rw [dif_pos ⟨h.lt,h.le⟩]
 have:=Classical.choose_spec (cov_ex (w:=wd r.1) h.lt h.le)
 exact ⟨this.1,by omega⟩
theorem pcs_code{r:Rg}(h:GoodR r):aggregate_Prefixes (toR r)=some (toP r.1 (pcs r))∧crawlwayref53_Prefixes (adr r.1 r.2.1) (adr r.1 r.2.2)=some (toP r.1 (pcs r)):=by
 obtain ⟨L,h1,_,h3,h4⟩:=prefixes_code h.fam h.lt h.le
 rw [h1.uniq (pcs_cov h).1] at h3 h4
 exact ⟨h3,h4⟩
noncomputable def covR(rs:List Rg):List S_api_Prefix:=rs.flatMap fun r=>toP r.1 (pcs r)
theorem covR_len:∀ {rs:List Rg},(∀ r∈rs,GoodR r)→(covR rs).length≤257*rs.length
 | [],_=>by simp [covR]
 | r::rs,h=>by
  have h1:=(pcs_cov (h r (List.mem_cons_self ..))).2
  have h2:=covR_len (rs:=rs) fun x hx=>h x (List.mem_cons_of_mem _ hx)
  unfold covR at h2 ⊢
  have h3:(toP r.1 (pcs r)).length=(pcs r).length:=by unfold toP;rw [List.length_map]
  rw [List.flatMap_cons,List.length_append,List.length_cons,h3]
  omega
theorem cover_loop(rs:List Rg)(hS:rs.length≤10000)(hr:∀ r∈rs,GoodR r):∀ (B A:List Rg),rs=A++B →
  aggregate_Cover.l0 (rs.map toR) (covR A) (A.length:Int)=some (covR rs)∧crawlwayref53_Cover.l0 (rs.map toV) (covR A) (A.length:Int)=some (covR rs)
 | [],A,hx=>by
  have hd:decide ((A.length:Int)<((rs.map toR).length:Int))=false:=decide_eq_false (by rw [hx];simp)
  have hd2:decide ((A.length:Int)<((rs.map toV).length:Int))=false:=decide_eq_false (by rw [hx];simp)
  rw [aggregate_Cover.l0.eq_def,crawlwayref53_Cover.l0.eq_def,hd,hd2,if_neg Bool.false_ne_true,if_neg Bool.false_ne_true]
  rw [List.append_nil] at hx
  rw [hx];exact ⟨rfl,rfl⟩
 | r::B,A,hx=>by
  have hrg:=hr r (by rw [hx];simp)
  have hSl:rs.length=A.length+(B.length+1):=by rw [hx];simp
  have hin:(0:Int)≤(A.length:Int)∧(A.length:Int)<((rs.map toR).length:Int):=by rw [List.length_map];omega
  have hin2:(0:Int)≤(A.length:Int)∧(A.length:Int)<((rs.map toV).length:Int):=by rw [List.length_map];omega
  have hg:lget (rs.map toR) (A.length:Int)=toR r:=by
   rw [hx,List.map_append,List.map_cons]
   have:=lget_mid (A.map toR) (toR r) (B.map toR)
   rwa [List.length_map] at this
  have hg2:lget (rs.map toV) (A.length:Int)=toV r:=by
   rw [hx,List.map_append,List.map_cons]
   have:=lget_mid (A.map toV) (toV r) (B.map toV)
   rwa [List.length_map] at this
  have hwi:wr .i64 ((A.length:Int)+1)=((A++[r]).length:Int):=wr_mid A r (by omega)
  obtain ⟨c1,c2⟩:=pcs_code hrg
  have hA:=covR_len (rs:=A) fun x h=>hr x (by rw [hx];simp [h])
  have hp:(toP r.1 (pcs r)).length≤257:=by unfold toP;rw [List.length_map];exact (pcs_cov hrg).2
  have hc:covR A++toP r.1 (pcs r)=covR (A++[r]):=by unfold covR;rw [List.flatMap_append];simp
  obtain ⟨i1,i2⟩:=cover_loop rs hS hr B (A++[r]) (by rw [hx];simp)
  rw [aggregate_Cover.l0.eq_def,crawlwayref53_Cover.l0.eq_def,decide_eq_true hin.2,decide_eq_true hin2.2,if_pos rfl,if_pos rfl,if_pos hin,if_pos hin2,if_pos hin2,hg,hg2,toV0,toV1,c1,c2,bindM_some,bindM_some,if_pos (by omega),if_pos (by omega),hc,hwi]
  exact ⟨i1,i2⟩
structure Res (xs:List S_api_Prefix) (S:List (Int×Nat×Nat)):Prop where
 good:∀ t∈S,Good t
 up:Up lessP (S.map pf)
 len:S.length≤xs.length
 mem:∀ x,x∈S.map pf↔x∈xs∧crawlwayref11_Right x=some true
 perm:(∀ x∈xs,crawlwayref11_Right x=some true)→(S.map pf).Perm xs
 srt:crawlwayref53_sorted xs=some (S.map pf)
 rs:aggregate_Ranges xs=some ((S.foldl stepR []).reverse.map toR)
 rr:crawlwayref53_Ranges xs=some ((S.foldl stepR []).reverse.map toV)
 cs:aggregate_Cover xs=some (covR (S.foldl stepR []).reverse)
 cr:crawlwayref53_Cover xs=some (covR (S.foldl stepR []).reverse)
theorem fold_good:∀ (S:List (Int×Nat×Nat)) (rv:List Rg),(∀ t∈S,Good t)→(∀ r∈rv,GoodR r)→(∀ r∈S.foldl stepR rv,GoodR r)∧(S.foldl stepR rv).length≤rv.length+S.length
 | [],rv,_,hr=>⟨hr,by simp⟩
 | t::S,rv,hs,hr=>by
  obtain ⟨h1,h2⟩:=fold_good S (stepR rv t) (fun u hu=>hs u (List.mem_cons_of_mem _ hu)) (stepR_good hr (hs t (List.mem_cons_self ..)))
  have:=stepR_len rv t
  rw [List.foldl_cons]
  exact ⟨h1,by simp;omega⟩
theorem res_of(xs:List S_api_Prefix)(hx:∀ x∈xs,ok_api_Prefix x)(hn:xs.length≤10000):∃ S,Res xs S:=by
 obtain ⟨p,hp,T,hT,hfT⟩:=right_rows xs hx
 have hk:∀ x∈xs,p x=true→IsPf x:=fun x h1 h2=>by
  have:x∈T.map pf:=hfT▸List.mem_filter.2 ⟨h1,h2⟩
  obtain ⟨t,ht,rfl⟩:=List.mem_map.1 this
  exact ⟨t,hT t ht,rfl⟩
 have hmem:∀ x,x∈isort lessP (xs.filter p)↔x∈xs∧p x=true:=fun x=>by rw [(isort_perm _ _).mem_iff,List.mem_filter]
 obtain ⟨S,hS,hSe⟩:=allPf (l:=isort lessP (xs.filter p)) fun x h=>hk x ((hmem x).1 h).1 ((hmem x).1 h).2
 have hup:Up lessP (S.map pf):=by
  rw [←hSe]
  exact isort_up lessP_swo _ fun y hy=>by
   obtain ⟨h1,h2⟩:=List.mem_filter.1 hy
   exact (hk y h1 h2).ok
 have hl:S.length≤xs.length:=by
  have h1:=congrArg List.length hSe
  rw [isort_length,List.length_map] at h1
  rw [←h1];exact List.length_filter_le ..
 have hsr:=sorted_ref p xs (by omega) (fun x h=>(hp x h).2) hk
 have hsc:=sorted_code p xs (by omega) (fun x h=>(hp x h).1) hk
 rw [hSe] at hsr hsc
 obtain ⟨r1,r2⟩:=ranges_loop S (by omega) S [] [] rfl hS (fun r h=>(by cases h)) (Nat.le_refl _)
 have hR:aggregate_Ranges xs=some ((S.foldl stepR []).reverse.map toR):=by
  unfold aggregate_Ranges
  obtain ⟨a,ha,h1⟩:=of_bindM hsc
  obtain ⟨b,hb,h2⟩:=of_bindM h1
  rw [ha,bindM_some,hb,bindM_some,h2,bindM_some]
  show (aggregate_Ranges.l0 (S.map pf) (([]:List Rg).reverse.map toR) (([]:List (Int×Nat×Nat)).length:Int)>>=_)=_
  rw [r1];rfl
 have hR2:crawlwayref53_Ranges xs=some ((S.foldl stepR []).reverse.map toV):=by
  unfold crawlwayref53_Ranges
  rw [hsr,bindM_some]
  show (crawlwayref53_Ranges.l0 (S.map pf) (([]:List Rg).reverse.map toV) (([]:List (Int×Nat×Nat)).length:Int)>>=_)=_
  rw [r2];rfl
 obtain ⟨g1,g2⟩:=fold_good S [] hS fun r h=>(by cases h)
 have g3:(S.foldl stepR []).reverse.length≤10000:=by rw [List.length_reverse];simp at g2;omega
 obtain ⟨c1,c2⟩:=cover_loop (S.foldl stepR []).reverse g3 (fun r h=>g1 r (List.mem_reverse.1 h)) (S.foldl stepR []).reverse [] rfl
 refine ⟨S,hS,hup,hl,fun x=>?_,fun h=>?_,hsr,hR,hR2,?_,?_⟩
 ·rw [←hSe,hmem]
  constructor
  ·rintro ⟨h1,h2⟩;exact ⟨h1,by rw [(hp x h1).2,h2]⟩
  ·rintro ⟨h1,h2⟩;exact ⟨h1,by rw [(hp x h1).2] at h2;exact Option.some.inj h2⟩
 ·rw [←hSe]
  refine (isort_perm _ _).trans ?_
  rw [List.filter_eq_self.2 fun x hx=>Option.some.inj ((hp x hx).2.symm.trans (h x hx))]
 ·unfold aggregate_Cover
  rw [hR,bindM_some]
  show (aggregate_Cover.l0 _ (covR []) (([]:List Rg).length:Int)>>=_)=_
  rw [c1];rfl
 ·unfold crawlwayref53_Cover
  rw [hR2,bindM_some]
  show (crawlwayref53_Cover.l0 _ (covR []) (([]:List Rg).length:Int)>>=_)=_
  rw [c2];rfl
end Go.Proofs.YtahlbjmafceoeaaGreatDoor.Agg
namespace Go.Proofs.YtahlbjmafceoeaaGreatDoor.Agg
open E Go.RowKit Adr Cid
theorem pf_inj{t u:Int×Nat×Nat}(ht:Good t)(hu:Good u)(h:pf t=pf u):t=u:=by
 obtain ⟨V,N,k⟩:=t
 obtain ⟨W,M,j⟩:=u
 have h1:adr V N=adr W M:=congrArg S_api_Prefix.f_A h
 have h2:((wd V-k:Nat):Int)=((wd W-j:Nat):Int):=congrArg S_api_Prefix.f_Bits h
 obtain ⟨rfl,rfl⟩:=(adr_inj ht.lt hu.lt).1 h1
 have h3:k≤wd V:=ht.le
 have h4:j≤wd V:=hu.le
 simp only at h2
 have:k=j:=by omega
 rw [this]
theorem ok_pf{t:Int×Nat×Nat}(h:Good t):ok_api_Prefix (pf t):=by
 obtain ⟨V,N,k⟩:=t
 have hw:=wd_le V
 refine ⟨⟨?_,?_⟩,?_⟩
 ·rcases h.fam with e | e
  ·show (Lit.int .i64 V).wf=true
   have e:V=4:=e
   rw [e];rfl
  ·show (Lit.int .i64 V).wf=true
   have e:V=6:=e
   rw [e];rfl
 ·intro x hx
  have hx:x∈(vb (bt V N)).toList:=hx
  rw [vb_toList (bt_len V N)] at hx
  obtain ⟨b,_,rfl⟩:=List.mem_map.1 hx
  have:=b.toNat_lt
  simp [Lit.wf,IntKind.min,IntKind.max,IntKind.signed,IntKind.bits]
  omega
 ·show (Lit.int .i64 ((wd V-k:Nat):Int)).wf=true
  simp [Lit.wf,IntKind.min,IntKind.max,IntKind.signed,IntKind.bits]
  omega
end Go.Proofs.YtahlbjmafceoeaaGreatDoor.Agg
namespace Go.Proofs.YtahlbjmafceoeaaGreatDoor.Agg
open E Go.RowKit Adr Cid
def LeT(t u:Int×Nat×Nat):Prop:=t.1≤u.1∧(t.1=u.1→t.2.1≤u.2.1)
theorem leT_of{t u:Int×Nat×Nat}(ht:Good t)(hu:Good u)(h:lessP (pf u) (pf t)=false):LeT t u:=by
 unfold pf at h
 rw [lessP_prf hu.lt ht.lt] at h
 by_cases e:u.1=t.1∧u.2.1=t.2.1
 ·exact ⟨by omega,fun _=>by omega⟩
 ·rw [if_neg e] at h
  unfold ltA at h
  by_cases e1:u.1=t.1
  ·rw [if_pos e1] at h
   have:=of_decide_eq_false h
   exact ⟨by omega,fun _=>by omega⟩
  ·rw [if_neg e1] at h
   have:=of_decide_eq_false h
   exact ⟨by omega,fun e2=>by omega⟩
theorem up_leT{S:List (Int×Nat×Nat)}(hg:∀ t∈S,Good t)(h:Up lessP (S.map pf)):S.Pairwise LeT:=by
 have h2:=List.pairwise_map.1 h
 exact List.Pairwise.imp_of_mem (fun ha hb hab=>leT_of (hg _ ha) (hg _ hb) hab) h2
def sp(r q:Rg):Prop:=r.1<q.1∨(r.1=q.1∧r.2.2+1<q.2.1)
theorem sp_trans{a b c:Rg}(hb:b.2.1≤b.2.2)(h1:sp a b)(h2:sp b c):sp a c:=by
 unfold sp at *
 omega
def inR(W:Int)(x:Nat)(r:Rg):Prop:=W=r.1∧r.2.1≤x∧x≤r.2.2
def inT(W:Int)(x:Nat)(t:Int×Nat×Nat):Prop:=W=t.1∧t.2.1≤x∧x≤endT t
def leR(r:Rg)(t:Int×Nat×Nat):Prop:=r.1≤t.1∧(r.1=t.1→r.2.1≤t.2.1)
structure Inv (rv:List Rg) (S:List (Int×Nat×Nat)):Prop where
 good:∀ r∈rv,GoodR r
 sep:rv.Pairwise fun q r=>sp r q
 top:∀ r rest,rv=r::rest→∀ t∈S,leR r t
theorem step_inv{rv:List Rg}{t:Int×Nat×Nat}{S:List (Int×Nat×Nat)}(h:Inv rv (t::S))(ht:Good t)(hl:∀ u∈S,LeT t u):Inv (stepR rv t) S:=by
 refine ⟨stepR_good h.good ht,?_,?_⟩
 ·cases rv with
  | nil=>rw [stepR_nil];exact List.pairwise_singleton _ _
  | cons r rest =>
   have h1:=List.pairwise_cons.1 h.sep
   have h2:=h.top r rest rfl t (List.mem_cons_self ..)
   have hr:=h.good r (List.mem_cons_self ..)
   rw [stepR_cons]
   split
   ·exact List.pairwise_cons.2 ⟨fun q hq=>h1.1 q hq,h1.2⟩
   ·next hc =>
    have hs:sp r (t.1,t.2.1,endT t):=by
     unfold leR at h2
     unfold sp
     simp only
     omega
    refine List.pairwise_cons.2 ⟨fun q hq=>?_,h.sep⟩
    rcases List.mem_cons.1 hq with rfl | hq
    ·exact hs
    ·exact sp_trans hr.le (h1.1 q hq) hs
 ·intro r rest e u hu
  cases rv with
  | nil =>
   rw [stepR_nil] at e
   have:=(List.cons.inj e).1
   subst this
   exact hl u hu
  | cons r' rest' =>
   rw [stepR_cons] at e
   split at e
   ·have:=(List.cons.inj e).1
    subst this
    exact h.top r' rest' rfl u (List.mem_cons_of_mem _ hu)
   ·have:=(List.cons.inj e).1
    subst this
    exact hl u hu
theorem step_in{rv:List Rg}{t:Int×Nat×Nat}{S:List (Int×Nat×Nat)}(h:Inv rv (t::S))(ht:Good t)(W:Int)(x:Nat):(∃ r∈stepR rv t,inR W x r)↔(∃ r∈rv,inR W x r)∨inT W x t:=by
 cases rv with
 | nil =>
  rw [stepR_nil]
  constructor
  ·rintro ⟨r,hr,hx⟩
   rw [List.mem_singleton.1 hr] at hx
   exact .inr hx
  ·rintro (⟨r,hr,_⟩ | hx)
   ·cases hr
   ·exact ⟨_,List.mem_singleton.2 rfl,hx⟩
 | cons r rest =>
  have h2:=h.top r rest rfl t (List.mem_cons_self ..)
  rw [stepR_cons]
  split
  ·next hc =>
   have hle:=le_endT t
   have hiff:inR W x (r.1,r.2.1,max r.2.2 (endT t))↔inR W x r∨inT W x t:=by
    have h3:=h2.2 hc.1
    have hr:=(h.good r (List.mem_cons_self ..)).le
    have hc1:=hc.1
    unfold inR inT
    simp only
    omega
   constructor
   ·rintro ⟨q,hq,hx⟩
    rcases List.mem_cons.1 hq with rfl | hq
    ·rcases hiff.1 hx with h4 | h4
     ·exact .inl ⟨r,List.mem_cons_self ..,h4⟩
     ·exact .inr h4
    ·exact .inl ⟨q,List.mem_cons_of_mem _ hq,hx⟩
   ·rintro (⟨q,hq,hx⟩ | hx)
    ·rcases List.mem_cons.1 hq with rfl | hq
     ·exact ⟨_,List.mem_cons_self ..,hiff.2 (.inl hx)⟩
     ·exact ⟨q,List.mem_cons_of_mem _ hq,hx⟩
    ·exact ⟨_,List.mem_cons_self ..,hiff.2 (.inr hx)⟩
  ·constructor
   ·rintro ⟨q,hq,hx⟩
    rcases List.mem_cons.1 hq with rfl | hq
    ·exact .inr hx
    ·exact .inl ⟨q,hq,hx⟩
   ·rintro (⟨q,hq,hx⟩ | hx)
    ·exact ⟨q,List.mem_cons_of_mem _ hq,hx⟩
    ·exact ⟨_,List.mem_cons_self ..,hx⟩
theorem fold_inv:∀ (S:List (Int×Nat×Nat)) (rv:List Rg),(∀ t∈S,Good t)→S.Pairwise LeT→Inv rv S→Inv (S.foldl stepR rv) []∧∀ W x,(∃ r∈S.foldl stepR rv,inR W x r)↔(∃ r∈rv,inR W x r)∨∃ t∈S,inT W x t
 | [],rv,_,_,h=>⟨h,fun W x=>by simp⟩
 | t::S,rv,hg,hp,h=>by
  have ht:=hg t (List.mem_cons_self ..)
  obtain ⟨p1,p2⟩:=List.pairwise_cons.1 hp
  obtain ⟨i1,i2⟩:=fold_inv S (stepR rv t) (fun u hu=>hg u (List.mem_cons_of_mem _ hu)) p2 (step_inv h ht p1)
  refine ⟨i1,fun W x=>?_⟩
  rw [List.foldl_cons,i2,step_in h ht]
  constructor
  ·rintro ((h1 | h1) | ⟨u,hu,h1⟩)
   ·exact .inl h1
   ·exact .inr ⟨t,List.mem_cons_self ..,h1⟩
   ·exact .inr ⟨u,List.mem_cons_of_mem _ hu,h1⟩
  ·rintro (h1 | ⟨u,hu,h1⟩)
   ·exact .inl (.inl h1)
   ·rcases List.mem_cons.1 hu with rfl | hu
    ·exact .inl (.inr h1)
    ·exact .inr ⟨u,hu,h1⟩
theorem Cov.mem{w M N:Nat}{L:List (Nat×Nat)}(h:Cov w M N L):∀ p∈L,N≤p.1∧p.1+2 ^ p.2≤M+1∧p.2≤w∧2 ^ p.2 ∣ p.1:=by
 induction h with
 | last h e =>
  intro p hp
  rw [List.mem_singleton.1 hp]
  exact ⟨Nat.le_refl _,h.fit,h.le,h.dvd⟩
 | @step N k L h e t ih =>
  intro p hp
  rcases List.mem_cons.1 hp with rfl | hp
  ·exact ⟨Nat.le_refl _,h.fit,h.le,h.dvd⟩
  ·obtain ⟨a,b,c⟩:=ih p hp
   exact ⟨Nat.le_trans (Nat.le_add_right _ _) a,b,c⟩
theorem Cov.has{w M N:Nat}{L:List (Nat×Nat)}(h:Cov w M N L)(x:Nat):(∃ p∈L,p.1≤x∧x<p.1+2 ^ p.2)↔N≤x∧x≤M:=by
 induction h with
 | @last N k h e =>
  have:=h.fit
  constructor
  ·rintro ⟨p,hp,h1,h2⟩
   rw [List.mem_singleton.1 hp] at h1 h2
   simp only at h1 h2
   exact ⟨h1,by omega⟩
  ·rintro ⟨h1,h2⟩
   exact ⟨_,List.mem_singleton.2 rfl,h1,by show x<N+2 ^ k;omega⟩
 | @step N k L h e t ih =>
  have:=h.fit
  constructor
  ·rintro ⟨p,hp,h1,h2⟩
   rcases List.mem_cons.1 hp with rfl | hp
   ·simp only at h1 h2
    exact ⟨h1,by omega⟩
   ·obtain ⟨h3,h4⟩:=ih.1 ⟨p,hp,h1,h2⟩
    exact ⟨Nat.le_trans (Nat.le_add_right _ _) h3,h4⟩
  ·rintro ⟨h1,h2⟩
   rcases Nat.lt_or_ge x (N+2 ^ k) with h3 | h3
   ·exact ⟨_,List.mem_cons_self ..,h1,h3⟩
   ·obtain ⟨p,hp,h4⟩:=ih.2 ⟨h3,h2⟩
    exact ⟨p,List.mem_cons_of_mem _ hp,h4⟩
noncomputable def pcT(r:Rg):List (Int×Nat×Nat):=(pcs r).map fun p=>(r.1,p.1,p.2)
noncomputable def allT(rs:List Rg):List (Int×Nat×Nat):=rs.flatMap pcT
theorem covR_allT(rs:List Rg):covR rs=(allT rs).map pf:=by
 unfold covR allT
 induction rs with
 | nil=>rfl
 | cons r rs ih =>
  rw [List.flatMap_cons,List.flatMap_cons,List.map_append,ih]
  congr 1
  unfold toP pcT
  rw [List.map_map];rfl
theorem pcT_good{r:Rg}(h:GoodR r):∀ t∈pcT r,Good t∧t.1=r.1∧r.2.1≤t.2.1∧t.2.1≤r.2.2:=by
 intro t ht
 obtain ⟨p,hp,rfl⟩:=List.mem_map.1 ht
 obtain ⟨a,b,c,d⟩:=(pcs_cov h).1.mem p hp
 have h2:0<2 ^ p.2:=Nat.pow_pos (by omega)
 have h3:=h.lt
 exact ⟨⟨h.fam,by show p.1<2 ^ wd r.1;omega,c,d⟩,rfl,a,by show p.1≤_;omega⟩
theorem allT_good{rs:List Rg}(h:∀ r∈rs,GoodR r):∀ t∈allT rs,Good t:=by
 intro t ht
 obtain ⟨r,hr,ht⟩:=List.mem_flatMap.1 ht
 exact (pcT_good (h r hr) t ht).1
def rsOf(S:List (Int×Nat×Nat)):List Rg:=(S.foldl stepR []).reverse
theorem Res.inv{xs:List S_api_Prefix}{S:List (Int×Nat×Nat)}(h:Res xs S):(∀ r∈rsOf S,GoodR r)∧(rsOf S).Pairwise sp∧(rsOf S).length≤xs.length∧∀ W x,(∃ r∈rsOf S,inR W x r)↔∃ t∈S,inT W x t:=by
 obtain ⟨h1,h2⟩:=fold_inv S [] h.good (up_leT h.good h.up) ⟨fun r hr=>(by cases hr),List.Pairwise.nil,fun r rest e=>(by cases e)⟩
 have h3:=(fold_good S [] h.good fun r hr=>(by cases hr)).2
 have h4:=h.len
 unfold rsOf
 refine ⟨fun r hr=>h1.good r (List.mem_reverse.1 hr),List.pairwise_reverse.2 h1.sep,by rw [List.length_reverse];simp at h3;omega,fun W x=>?_⟩
 have:=h2 W x
 simp only [List.mem_reverse]
 rw [this]
 simp
theorem lessP_anti{t u:Int×Nat×Nat}(ht:Good t)(hu:Good u)(h1:lessP (pf t) (pf u)=false)(h2:lessP (pf u) (pf t)=false):t=u:=by
 have a:=leT_of ht hu h2
 have b:=leT_of hu ht h1
 unfold LeT at a b
 obtain ⟨V,N,k⟩:=t
 obtain ⟨W,M,j⟩:=u
 simp only at a b
 have e1:V=W:=by omega
 subst e1
 have e2:N=M:=by omega
 subst e2
 unfold pf at h1 h2
 rw [lessP_prf ht.lt hu.lt,if_pos ⟨rfl,rfl⟩] at h1
 rw [lessP_prf hu.lt ht.lt,if_pos ⟨rfl,rfl⟩] at h2
 have h3:=of_decide_eq_false h1
 have h4:=of_decide_eq_false h2
 have h5:k≤wd V:=ht.le
 have h6:j≤wd V:=hu.le
 simp only at h3 h4
 have:k=j:=by omega
 rw [this]
theorem has_pf{t:Int×Nat×Nat}(h:Good t){W:Int}(hW:fam W)(x:Nat)(hx:x<2 ^ wd W):crawlwayref11_Has (pf t) (adr W x)=some (decide (W=t.1∧t.2.1≤x∧x≤endT t)):=by
 obtain ⟨V,N,k⟩:=t
 have hr:=(prf_right h.fam h.le h.dvd).2
 unfold pf prf adr at hr ⊢
 rw [cright_ref (bt_len _ _)] at hr
 rw [has_ref (bt_len _ _) (bt_len _ _)]
 unfold hasP
 rw [Option.some.inj hr,bt_right hW,Bool.true_and,Bool.true_and]
 simp only
 congr 1
 by_cases e:W=V
 ·subst e
  have hk:k≤wd W:=h.le
  have hN:N<2 ^ wd W:=h.lt
  have hd:2 ^ k ∣ N:=h.dvd
  have hp:0<2 ^ k:=Nat.pow_pos (by omega)
  rw [mfull_bt (by omega),show wd W-(wd W-k)=k by omega,decide_eq_true rfl,Bool.true_and,decide_eq_decide]
  have hlt:x/2 ^ k*2 ^ k<2 ^ wd W:=Nat.lt_of_le_of_lt (Nat.div_mul_le_self _ _) hx
  have hdm:=Nat.div_add_mod x (2 ^ k)
  have hm:=Nat.mod_lt x hp
  rw [Nat.mul_comm] at hdm
  unfold endT
  simp only
  constructor
  ·intro e
   have e2:=bt_inj hlt hN e
   exact ⟨trivial,by omega,by omega⟩
  ·rintro ⟨_,h1,h2⟩
   obtain ⟨m,rfl⟩:=hd
   have:x/2 ^ k=m:=by
    apply Nat.div_eq_of_lt_le
    ·rw [Nat.mul_comm];exact h1
    ·rw [Nat.add_mul,Nat.one_mul,Nat.mul_comm];omega
   rw [this,Nat.mul_comm]
 ·rw [decide_eq_false e,Bool.false_and]
  exact (decide_eq_false fun h=>e h.1).symm
theorem has_wrong2{x:S_api_Prefix}(hx:ok_api_Prefix x){W:Int}{k:List UInt8}(hk:k.length=16)(h:rightL W k=false):crawlwayref11_Has x (mkA W k)=some false:=by
 obtain ⟨V,l,b,rfl,hl,_⟩:=exists_mkP x hx
 rw [has_ref hl hk]
 unfold hasP
 rw [h,Bool.false_and,Bool.and_false]
end Go.Proofs.YtahlbjmafceoeaaGreatDoor.Agg
namespace Go.Proofs.YtahlbjmafceoeaaGreatDoor.Agg
open E Go.RowKit Adr Cid
theorem has_code{V b W:Int}{l k:List UInt8}(hl:l.length=16)(hk:k.length=16):cidr_Has (mkP (mkA V l) b) (mkA W k)=some (hasP V l b W k):=by
 unfold cidr_Has hasP
 rw [cright_code hl,bindM_some]
 cases hp:rightP V l b with
 | false=>rfl
 | true =>
  obtain ⟨⟨hrl,h0,h1⟩,hm⟩:=rightP_iff.1 hp
  have hw:=width_le (V:=V) (l:=l)
  rw [if_pos rfl,right_code hk,bindM_some,Bool.true_and]
  cases hr:rightL W k with
  | false=>rfl
  | true =>
   rw [if_pos rfl,Bool.true_and]
   show (if (W==V)=true then (addr_Mask (mkA W k) b>>=fun t8=>some (decide (t8=mkA V l))) else some false)=_
   by_cases hV:W=V
   ·subst hV
    rw [if_pos (beq_self_eq_true _),mask_code hk (by omega),bindM_some,decide_eq_true rfl,Bool.true_and]
    unfold maskA
    rw [if_pos hr]
    refine congrArg some ?_
    rw [decide_eq_decide,mkA_inj (mlen hk b) hl]
    exact ⟨fun h=>h.2,fun h=>⟨rfl,h⟩⟩
   ·rw [if_neg (by rw [beq_iff_eq];exact hV),decide_eq_false hV];rfl
abbrev Tr:=Int×Nat×Nat
def cont(t u:Tr):Prop:=u.1=t.1∧u.2.2≤t.2.2∧t.2.1≤u.2.1∧u.2.1≤endT t
instance contDec (t u:Tr):Decidable (cont t u):=inferInstanceAs (Decidable (_∧_))
theorem has_pf2{t:Tr}(h:Good t){W:Int}(hW:fam W)(x:Nat)(hx:x<2 ^ wd W):cidr_Has (pf t) (adr W x)=some (decide (W=t.1∧t.2.1≤x∧x≤endT t)):=by
 have e:=has_pf h hW x hx
 unfold pf prf adr at e ⊢
 rw [has_ref (bt_len _ _) (bt_len _ _)] at e
 rw [has_code (bt_len _ _) (bt_len _ _)]
 exact e
theorem bits_le{t u:Tr}(ht:Good t)(hu:Good u)(h:u.1=t.1):(pf t).f_Bits≤(pf u).f_Bits↔u.2.2≤t.2.2:=by
 obtain ⟨V,N,k⟩:=t
 obtain ⟨W,M,j⟩:=u
 simp only at h
 subst h
 have h1:k≤wd W:=ht.le
 have h2:j≤wd W:=hu.le
 show ((wd W-k:Nat):Int)≤((wd W-j:Nat):Int)↔j≤k
 omega
theorem cov_pf{t u:Tr}(ht:Good t)(hu:Good u):cidr_Covers (pf t) (pf u)=some (decide (cont t u))∧crawlwayref11_Covers (pf t) (pf u)=some (decide (cont t u)):=by
 have r1:=(prf_right hu.fam hu.le hu.dvd)
 have h1:=has_pf2 ht hu.fam u.2.1 hu.lt
 have h2:=has_pf ht hu.fam u.2.1 hu.lt
 have hb:=bits_le ht hu
 unfold cidr_Covers crawlwayref11_Covers
 have hA:(pf u).f_A=adr u.1 u.2.1:=rfl
 have hr1:cidr_Right (pf u)=some true:=r1.1
 have hr2:crawlwayref11_Right (pf u)=some true:=r1.2
 rw [hr1,hr2,bindM_some,bindM_some,if_pos rfl,if_pos rfl,hA,h1,h2,bindM_some,bindM_some]
 by_cases hV:u.1=t.1
 ·by_cases hk:u.2.2≤t.2.2
  ·rw [decide_eq_true ((hb hV).2 hk),if_pos rfl]
   have e:(u.1=t.1∧t.2.1≤u.2.1∧u.2.1≤endT t)↔cont t u:=by unfold cont;constructor<;>intro h<;>simp_all
   rw [decide_eq_decide.2 e]
   cases hc:decide (cont t u)
   ·exact ⟨rfl,rfl⟩
   ·exact ⟨rfl,rfl⟩
  ·rw [decide_eq_false (mt (hb hV).1 hk),if_neg Bool.false_ne_true,decide_eq_false (show ¬ cont t u from fun h=>hk h.2.1)]
   refine ⟨rfl,?_⟩
   split<;>rfl
 ·rw [decide_eq_false (show ¬ (u.1=t.1∧t.2.1≤u.2.1∧u.2.1≤endT t) from fun h=>hV h.1),decide_eq_false (show ¬ cont t u from fun h=>hV h.1),if_neg Bool.false_ne_true]
  refine ⟨?_,rfl⟩
  split<;>rfl
def others(e:S_api_Entry)(B:List S_api_Entry):List S_api_Entry:=B.filter fun x=>!decide (x.f_P=e.f_P)
theorem others_pos{e x:S_api_Entry}{B:List S_api_Entry}(h:x.f_P≠e.f_P):others e (x::B)=x::others e B:=List.filter_cons_of_pos (by simpa using h)
theorem others_neg{e x:S_api_Entry}{B:List S_api_Entry}(h:x.f_P=e.f_P):others e (x::B)=others e B:=List.filter_cons_of_neg (by simpa using h)
theorem put_loop(xs:List S_api_Entry)(e:S_api_Entry)(hn:xs.length≤100000)(hl:∀ x∈xs,crawlwayref11_Less e.f_P x.f_P=some (lessE e x)):∀ (B A out:List S_api_Entry) (b:Bool),xs=A++B→out.length≤A.length+(if b=true then 1 else 0) →
  ∃ (o:List S_api_Entry) (c:Bool),crawlwayref25_Put.l0 xs e out b (A.length:Int)=some (o,c)∧o.length≤xs.length+(if c=true then 1 else 0) ∧
   (if c=true then o else o++[e])=out++(if b=true then others e B else ins lessE e (others e B))
 | [],A,out,b,hx,ho=>by
  have hd:decide ((A.length:Int)<(xs.length:Int))=false:=decide_eq_false (by rw [hx];simp)
  refine ⟨out,b,?_,?_,?_⟩
  ·rw [crawlwayref25_Put.l0.eq_def,hd,if_neg Bool.false_ne_true]
  ·rw [hx,List.append_nil];exact ho
  ·cases b
   ·rfl
   ·show out=out++[];rw [List.append_nil]
 | x::B,A,out,b,hx,ho=>by
  have hin:(0:Int)≤(A.length:Int)∧(A.length:Int)<(xs.length:Int):=by rw [hx];exact in_mid A x B
  have hg:lget xs (A.length:Int)=x:=by rw [hx];exact lget_mid A x B
  have hAl:A.length+1≤xs.length:=by rw [hx];simp
  have hwi:wr .i64 ((A.length:Int)+1)=((A++[x]).length:Int):=wr_mid A x (by omega)
  have hx2:xs=(A++[x])++B:=by rw [hx];simp
  have hA2:(A++[x]).length=A.length+1:=by simp
  have hlx:=hl x (by rw [hx];simp)
  have ho1:out.length≤A.length+1:=by split at ho<;>omega
  rw [crawlwayref25_Put.l0.eq_def,decide_eq_true hin.2,if_pos rfl,if_pos hin,hg,hwi]
  by_cases hp:x.f_P=e.f_P
  ·rw [decide_eq_true hp,if_pos rfl,others_neg hp]
   exact put_loop xs e hn hl B (A++[x]) out b hx2 (by omega)
  ·rw [decide_eq_false hp,if_neg Bool.false_ne_true,others_pos hp,if_pos hin,if_pos hin,hlx,bindM_some,if_pos hin]
   cases b with
   | true =>
    rw [if_neg (by decide),if_pos (by omega)]
    obtain ⟨o,c,h1,h2,h3⟩:=put_loop xs e hn hl B (A++[x]) (out++[x]) true hx2 (by rw [if_pos rfl] at ho ⊢;simp;omega)
    refine ⟨o,c,h1,h2,?_⟩
    rw [h3,if_pos rfl,if_pos rfl,List.append_assoc];rfl
   | false =>
    rw [if_pos (show (!false)=true from rfl)]
    have ho:out.length≤A.length:=ho
    show ∃ (o:List S_api_Entry) (c:Bool),_∧_∧(if c=true then o else o++[e])=out++ins lessE e (x::others e B)
    have hins:ins lessE e (x::others e B)=if lessE e x=true then e::x::others e B else x::ins lessE e (others e B):=rfl
    rw [hins]
    cases hlt:lessE e x with
    | true =>
     rw [if_pos rfl,if_pos rfl,if_pos (by omega),if_pos (by simp;omega)]
     obtain ⟨o,c,h1,h2,h3⟩:=put_loop xs e hn hl B (A++[x]) ((out++[e])++[x]) true hx2 (by rw [if_pos rfl];simp;omega)
     refine ⟨o,c,h1,h2,?_⟩
     rw [h3,if_pos rfl];simp
    | false =>
     rw [if_neg Bool.false_ne_true,if_neg Bool.false_ne_true,if_pos (by omega)]
     obtain ⟨o,c,h1,h2,h3⟩:=put_loop xs e hn hl B (A++[x]) (out++[x]) false hx2 (by rw [if_neg (by decide)];simp;omega)
     refine ⟨o,c,h1,h2,?_⟩
     rw [h3,if_neg (by decide),List.append_assoc];rfl
def putE(O:List S_api_Entry)(e:S_api_Entry):List S_api_Entry:=ins lessE e (others e O)
theorem others_len(e:S_api_Entry)(O:List S_api_Entry):(others e O).length≤O.length:=List.length_filter_le ..
theorem putE_len(O:List S_api_Entry)(e:S_api_Entry):(putE O e).length≤O.length+1:=by
 have h1:=(ins_perm lessE e (others e O)).length_eq
 have h2:=others_len e O
 unfold putE
 rw [h1,List.length_cons];omega
theorem put_code(xs:List S_api_Entry)(e:S_api_Entry)(hn:xs.length≤100000)(hl:∀ x∈xs,crawlwayref11_Less e.f_P x.f_P=some (lessE e x)):crawlwayref25_Put xs e=some (putE xs e):=by
 obtain ⟨o,c,h1,h2,h3⟩:=put_loop xs e hn hl xs [] [] false rfl (by simp)
 unfold crawlwayref25_Put
 show (crawlwayref25_Put.l0 xs e [] false (([]:List S_api_Entry).length:Int)>>=_)=_
 rw [h1,bindM_some]
 have h3:(if c=true then o else o++[e])=ins lessE e (others e xs):=h3
 unfold putE
 rw [←h3]
 cases c with
 | true=>rfl
 | false =>
  have h2:o.length≤xs.length:=h2
  show (if (!false)=true then (if (o.length+1)*40≤140737488355328 then some (o++[e]) else none) else some o)=_
  rw [if_pos (by decide),if_pos (by omega)];rfl
def LastIn:List S_api_Entry→S_api_Entry→Prop
 | [],_=>False
 | e::r,x=>(x=e∧∀ y∈r,y.f_P≠e.f_P)∨LastIn r x
theorem mem_others{e x:S_api_Entry}{O:List S_api_Entry}:x∈others e O↔x∈O∧x.f_P≠e.f_P:=by
 unfold others;rw [List.mem_filter];simp
theorem mem_putE{e x:S_api_Entry}{O:List S_api_Entry}:x∈putE O e↔x=e∨(x∈O∧x.f_P≠e.f_P):=by
 unfold putE
 rw [(ins_perm lessE e (others e O)).mem_iff,List.mem_cons,mem_others]
theorem mem_fold:∀ (r O:List S_api_Entry) (x:S_api_Entry),x∈r.foldl putE O↔LastIn r x∨(x∈O∧∀ y∈r,y.f_P≠x.f_P)
 | [],O,x=>by simp [LastIn]
 | e::r,O,x=>by
  rw [List.foldl_cons,mem_fold r,mem_putE]
  show _↔((x=e∧∀ y∈r,y.f_P≠e.f_P)∨LastIn r x)∨_
  constructor
  ·rintro (h | ⟨rfl | ⟨h1,h2⟩,h3⟩)
   ·exact .inl (.inr h)
   ·exact .inl (.inl ⟨rfl,h3⟩)
   ·refine .inr ⟨h1,fun y hy=>?_⟩
    rcases List.mem_cons.1 hy with rfl | hy
    ·exact fun e=>h2 e.symm
    ·exact h3 y hy
  ·rintro ((⟨rfl,h⟩ | h) | ⟨h1,h2⟩)
   ·exact .inr ⟨.inl rfl,h⟩
   ·exact .inl h
   ·exact .inr ⟨.inr ⟨h1,fun e'=>h2 e (List.mem_cons_self ..) e'.symm⟩,fun y hy=>h2 y (List.mem_cons_of_mem _ hy)⟩
def IsE(x:S_api_Entry):Prop:=IsPf x.f_P
theorem IsE.ok{x:S_api_Entry}(h:IsE x):okE x:=IsPf.ok h
structure Sorted (O:List S_api_Entry):Prop where
 is:∀ x∈O,IsE x
 up:Up lessE O
 nd:(O.map S_api_Entry.f_P).Nodup
theorem nodup_perm{A B:List S_api_Prefix}(h:A.Perm B):A.Nodup↔B.Nodup:=h.nodup_iff
theorem Sorted.put{O:List S_api_Entry}(h:Sorted O){e:S_api_Entry}(he:IsE e):Sorted (putE O e):=by
 have hsub:(others e O).Sublist O:=List.filter_sublist
 have his:∀ x∈others e O,IsE x:=fun x hx=>h.is x (mem_others.1 hx).1
 refine ⟨fun x hx=>?_,?_,?_⟩
 ·rcases mem_putE.1 hx with rfl | hx
  ·exact he
  ·exact h.is x hx.1
 ·exact ins_up lessE_swo he.ok (fun x hx=>(his x hx).ok) (h.up.sublist hsub)
 ·unfold putE
  rw [nodup_perm ((ins_perm lessE e (others e O)).map S_api_Entry.f_P),List.map_cons]
  refine List.nodup_cons.2 ⟨fun hm=>?_,h.nd.sublist (hsub.map _)⟩
  obtain ⟨x,hx,ex⟩:=List.mem_map.1 hm
  exact (mem_others.1 hx).2 ex
theorem Sorted.fold:∀ (r:List S_api_Entry) {O:List S_api_Entry},Sorted O→(∀ x∈r,IsE x)→Sorted (r.foldl putE O)∧(r.foldl putE O).length≤O.length+r.length
 | [],O,h,_=>⟨h,by simp⟩
 | e::r,O,h,hr=>by
  obtain ⟨h1,h2⟩:=Sorted.fold r (h.put (hr e (List.mem_cons_self ..))) fun x hx=>hr x (List.mem_cons_of_mem _ hx)
  have:=putE_len O e
  rw [List.foldl_cons]
  exact ⟨h1,by simp;omega⟩
theorem map_nodup{O:List S_api_Entry}(h:(O.map S_api_Entry.f_P).Nodup):O.Nodup:=by
 induction O with
 | nil=>exact List.nodup_nil
 | cons x O ih =>
  rw [List.map_cons] at h
  obtain ⟨h1,h2⟩:=List.nodup_cons.1 h
  exact List.nodup_cons.2 ⟨fun hx=>h1 (List.mem_map.2 ⟨x,hx,rfl⟩),ih h2⟩
theorem Sorted.ext{A B:List S_api_Entry}(hA:Sorted A)(hB:Sorted B)(h:∀ x,x∈A↔x∈B):A=B :=
 up_unique ((List.perm_ext_iff_of_nodup (map_nodup hA.nd) (map_nodup hB.nd)).2 h) hA.up hB.up fun x hx y hy h1 h2 =>
  nodup_on hA.nd x hx y hy (Go.Proofs.YtahlbjmafceoeaaGreatDoor.lessP_anti (hA.is x hx).ok (hA.is y hy).ok h1 h2)
end Go.Proofs.YtahlbjmafceoeaaGreatDoor.Agg
namespace Go.Proofs.YtahlbjmafceoeaaGreatDoor.Agg
open E Go.RowKit Adr Cid
theorem right_at(x:S_api_Prefix)(h:ok_api_Prefix x):cidr_Right x=some (rgt x)∧crawlwayref11_Right x=some (rgt x)∧(rgt x=true→IsPf x):=by
 obtain ⟨V,l,b,rfl,hl,_⟩:=exists_mkP x h
 unfold rgt
 rw [cright_code hl,cright_ref hl]
 refine ⟨rfl,rfl,fun h2=>?_⟩
 obtain ⟨hf,N,k,a1,a2,a3,a4⟩:=right_prf hl h2
 exact ⟨(V,N,k),⟨hf,a1,a2,a3⟩,a4⟩
def pE(x:S_api_Entry):Bool:=rgt x.f_P
def okL(l:List S_api_Entry):Prop:=∀ x∈l,ok_api_Prefix x.f_P
theorem refOwn_loop(xs:List S_api_Entry)(hok:okL xs)(hn:xs.length≤10000):∀ (B A out:List S_api_Entry),xs=A++B→Sorted out→out.length≤A.length →
  crawlwayref59_Own.l0 xs out (A.length:Int)=some ((B.filter pE).foldl putE out)
 | [],A,out,hx,ho,hl=>by
  have hd:decide ((A.length:Int)<(xs.length:Int))=false:=decide_eq_false (by rw [hx];simp)
  rw [crawlwayref59_Own.l0.eq_def,hd,if_neg Bool.false_ne_true];rfl
 | x::B,A,out,hx,ho,hl=>by
  have hin:(0:Int)≤(A.length:Int)∧(A.length:Int)<(xs.length:Int):=by rw [hx];exact in_mid A x B
  have hg:lget xs (A.length:Int)=x:=by rw [hx];exact lget_mid A x B
  have hAl:A.length+1≤xs.length:=by rw [hx];simp
  have hwi:wr .i64 ((A.length:Int)+1)=((A++[x]).length:Int):=wr_mid A x (by omega)
  have hx2:xs=(A++[x])++B:=by rw [hx];simp
  obtain ⟨_,r2,r3⟩:=right_at x.f_P (hok x (by rw [hx];simp))
  rw [crawlwayref59_Own.l0.eq_def,decide_eq_true hin.2,if_pos rfl,if_pos hin,hg,hwi,r2,bindM_some]
  cases hp:rgt x.f_P with
  | false =>
   rw [if_neg Bool.false_ne_true,List.filter_cons_of_neg (by unfold pE;rw [hp];decide)]
   exact refOwn_loop xs hok hn B (A++[x]) out hx2 ho (by simp;omega)
  | true =>
   have he:IsE x:=r3 hp
   rw [if_pos rfl,if_pos hin,put_code out x (by omega) (fun y hy=>IsPf.less he (ho.is y hy)),bindM_some,List.filter_cons_of_pos (by unfold pE;exact hp),List.foldl_cons]
   have:=putE_len out x
   exact refOwn_loop xs hok hn B (A++[x]) (putE out x) hx2 (ho.put he) (by simp;omega)
theorem Sorted.nil:Sorted []:=⟨fun x h=>(by cases h),List.Pairwise.nil,List.nodup_nil⟩
theorem refOwn_code(xs:List S_api_Entry)(hok:okL xs)(hn:xs.length≤10000):crawlwayref59_Own xs=some ((xs.filter pE).foldl putE []):=by
 unfold crawlwayref59_Own
 have:=refOwn_loop xs hok hn xs [] [] rfl .nil (Nat.le_refl _)
 show (crawlwayref59_Own.l0 xs [] (([]:List S_api_Entry).length:Int)>>=_)=_
 rw [this];rfl
theorem idxE_loop(e:S_api_Entry)(xs:List S_api_Entry)(hn:xs.length≤100000):∀ (B A:List S_api_Entry),xs=A++B→(∀ y∈A,y.f_P≠e.f_P) →
  ∃ i:Int,(slices_IndexFunc_api_Entry__flat_Own_1.l0 xs e (A.length:Int)>>=fun q1=>match q1 with | .ret r'=>some r' | .nx sq1=>(some (-1)))=some i∧(decide (i≥0)=B.any fun y=>decide (y.f_P=e.f_P))
 | [],A,hx,hA=>by
  have hd:decide ((A.length:Int)<(xs.length:Int))=false:=decide_eq_false (by rw [hx];simp)
  refine ⟨-1,?_,rfl⟩
  rw [slices_IndexFunc_api_Entry__flat_Own_1.l0.eq_def,hd,if_neg Bool.false_ne_true];rfl
 | x::B,A,hx,hA=>by
  have hin:(0:Int)≤(A.length:Int)∧(A.length:Int)<(xs.length:Int):=by rw [hx];exact in_mid A x B
  have hg:lget xs (A.length:Int)=x:=by rw [hx];exact lget_mid A x B
  have hAl:A.length+1≤xs.length:=by rw [hx];simp
  have hwi:wr .i64 ((A.length:Int)+1)=((A++[x]).length:Int):=wr_mid A x (by omega)
  rw [slices_IndexFunc_api_Entry__flat_Own_1.l0.eq_def,decide_eq_true hin.2,if_pos rfl,if_pos hin,hg,hwi]
  unfold flat_Own_1
  rw [bindM_some]
  by_cases hp:x.f_P=e.f_P
  ·refine ⟨(A.length:Int),?_,?_⟩
   ·rw [decide_eq_true hp,if_pos rfl];rfl
   ·rw [List.any_cons,decide_eq_true hp,decide_eq_true (by omega)];rfl
  ·rw [decide_eq_false hp,if_neg Bool.false_ne_true]
   obtain ⟨i,h1,h2⟩:=idxE_loop e xs hn B (A++[x]) (by rw [hx];simp) (fun y hy=>by
    rcases List.mem_append.1 hy with hy | hy
    ·exact hA y hy
    ·rw [List.mem_singleton.1 hy];exact hp)
   refine ⟨i,h1,?_⟩
   rw [List.any_cons,decide_eq_false hp,Bool.false_or];exact h2
theorem contains_code(xs:List S_api_Entry)(e:S_api_Entry)(hn:xs.length≤100000):slices_ContainsFunc_api_Entry__flat_Own_1 xs e=some (xs.any fun y=>decide (y.f_P=e.f_P)):=by
 obtain ⟨i,h1,h2⟩:=idxE_loop e xs hn xs [] rfl (fun y hy=>by cases hy)
 have h3:slices_IndexFunc_api_Entry__flat_Own_1 xs e=some i:=by
  unfold slices_IndexFunc_api_Entry__flat_Own_1
  exact h1
 unfold slices_ContainsFunc_api_Entry__flat_Own_1
 rw [h3,bindM_some,h2]
def keepL:List S_api_Entry→List S_api_Entry
 | []=>[]
 | e::r=>if (pE e&&!(r.any fun y=>decide (y.f_P=e.f_P)))=true then e::keepL r else keepL r
theorem lsub_tail{α:Type}(A:List α)(x:α)(B:List α):lsub (A++x::B) ((A++[x]).length:Int) ((A++x::B).length:Int)=B:=by
 unfold lsub
 rw [Int.toNat_natCast,Int.toNat_natCast,List.take_length]
 have:A++x::B=(A++[x])++B:=by simp
 rw [this,List.drop_left]
theorem flatOwn_loop(xs:List S_api_Entry)(hok:okL xs)(hn:xs.length≤10000):∀ (B A out:List S_api_Entry),xs=A++B→out.length≤A.length →
  flat_Own.l0 xs out (A.length:Int)=some (out++keepL B)
 | [],A,out,hx,hl=>by
  have hd:decide ((A.length:Int)<(xs.length:Int))=false:=decide_eq_false (by rw [hx];simp)
  rw [flat_Own.l0.eq_def,hd,if_neg Bool.false_ne_true]
  show some out=some (out++[])
  rw [List.append_nil]
 | x::B,A,out,hx,hl=>by
  have hin:(0:Int)≤(A.length:Int)∧(A.length:Int)<(xs.length:Int):=by rw [hx];exact in_mid A x B
  have hg:lget xs (A.length:Int)=x:=by rw [hx];exact lget_mid A x B
  have hAl:A.length+1≤xs.length:=by rw [hx];simp
  have hBl:B.length≤xs.length:=by rw [hx];simp;omega
  have hA1:(A++[x]).length=A.length+1:=by simp
  have hwi:wr .i64 ((A.length:Int)+1)=((A++[x]).length:Int):=wr_mid A x (by omega)
  have hx2:xs=(A++[x])++B:=by rw [hx];simp
  have hb:(0:Int)≤((A++[x]).length:Int)∧((A++[x]).length:Int)≤(xs.length:Int)∧(xs.length:Int)≤(xs.length:Int):=by omega
  have hsub:lsub xs ((A++[x]).length:Int) (xs.length:Int)=B:=by rw [hx];exact lsub_tail A x B
  obtain ⟨r1,_,r3⟩:=right_at x.f_P (hok x (by rw [hx];simp))
  have ih:=fun o (h:o.length≤A.length+1)=>flatOwn_loop xs hok hn B (A++[x]) o hx2 (by omega)
  rw [flat_Own.l0.eq_def,decide_eq_true hin.2,if_pos rfl,if_pos hin,hg,hwi,if_pos hb,hsub,contains_code B x (by omega),bindM_some,r1,bindM_some]
  show _=some (out++(if (pE x&&!(B.any fun y=>decide (y.f_P=x.f_P)))=true then x::keepL B else keepL B))
  unfold pE
  cases rgt x.f_P with
  | false=>rw [if_neg Bool.false_ne_true,ih out (by omega)];rfl
  | true =>
   rw [if_pos rfl]
   cases B.any fun y=>decide (y.f_P=x.f_P) with
   | true=>rw [if_neg (by decide),ih out (by omega)];rfl
   | false =>
    rw [if_pos (by decide),if_pos (by omega),ih (out++[x]) (by simp;omega),List.append_assoc];rfl
theorem mem_keep:∀ (r:List S_api_Entry) (x:S_api_Entry),x∈keepL r↔LastIn (r.filter pE) x
 | [],x=>by simp [keepL,LastIn]
 | e::r,x=>by
  have hany:pE e=true→((r.any fun y=>decide (y.f_P=e.f_P))=false↔∀ y∈r.filter pE,y.f_P≠e.f_P):=fun he=>by
   rw [List.any_eq_false]
   constructor
   ·intro h y hy ey
    exact h y (List.mem_filter.1 hy).1 (decide_eq_true ey)
   ·intro h y hy ey
    have ey:=of_decide_eq_true ey
    refine h y (List.mem_filter.2 ⟨hy,?_⟩) ey
    unfold pE at he ⊢
    rw [ey];exact he
  show x∈(if (pE e&&!(r.any fun y=>decide (y.f_P=e.f_P)))=true then e::keepL r else keepL r)↔_
  cases he:pE e with
  | false =>
   rw [List.filter_cons_of_neg (by rw [he];decide),Bool.false_and,if_neg Bool.false_ne_true]
   exact mem_keep r x
  | true =>
   rw [List.filter_cons_of_pos he,Bool.true_and]
   show _↔(x=e∧∀ y∈r.filter pE,y.f_P≠e.f_P)∨LastIn (r.filter pE) x
   rw [←hany he]
   cases hb:r.any fun y=>decide (y.f_P=e.f_P) with
   | true =>
    rw [if_neg (by decide),mem_keep r x]
    exact ⟨.inr,fun h=>h.elim (fun h=>(by cases h.2)) id⟩
   | false =>
    rw [if_pos (by decide),List.mem_cons,mem_keep r x]
    exact ⟨fun h=>h.elim (fun h=>.inl ⟨h,rfl⟩) .inr,fun h=>h.elim (fun h=>.inl h.1) .inr⟩
theorem keep_sub:∀ (r:List S_api_Entry),(keepL r).Sublist (r.filter pE)
 | []=>List.Sublist.refl _
 | e::r=>by
  show (if (pE e&&!(r.any fun y=>decide (y.f_P=e.f_P)))=true then e::keepL r else keepL r).Sublist _
  cases he:pE e with
  | false=>rw [List.filter_cons_of_neg (by rw [he];decide)];exact keep_sub r
  | true =>
   rw [List.filter_cons_of_pos he]
   split
   ·exact (keep_sub r).cons_cons e
   ·exact (keep_sub r).cons e
theorem keep_nd:∀ (r:List S_api_Entry),((keepL r).map S_api_Entry.f_P).Nodup
 | []=>List.nodup_nil
 | e::r=>by
  show ((if (pE e&&!(r.any fun y=>decide (y.f_P=e.f_P)))=true then e::keepL r else keepL r).map S_api_Entry.f_P).Nodup
  split
  ·next h =>
   rw [List.map_cons]
   refine List.nodup_cons.2 ⟨fun hm=>?_,keep_nd r⟩
   obtain ⟨y,hy,ey⟩:=List.mem_map.1 hm
   rw [Bool.and_eq_true,Bool.not_eq_true'] at h
   have h2:=List.any_eq_false.1 h.2 y (List.mem_filter.1 ((keep_sub r).subset hy)).1
   exact h2 (decide_eq_true ey)
  ·exact keep_nd r
theorem isE_of{x:S_api_Entry}{l:List S_api_Entry}(hok:okL l)(h:x∈l.filter pE):IsE x:=by
 obtain ⟨h1,h2⟩:=List.mem_filter.1 h
 exact (right_at x.f_P (hok x h1)).2.2 h2
theorem last_nd:∀ {l:List S_api_Entry} {x:S_api_Entry},(l.map S_api_Entry.f_P).Nodup→(LastIn l x↔x∈l)
 | [],x,_=>by simp [LastIn]
 | e::r,x,h=>by
  rw [List.map_cons] at h
  obtain ⟨h1,h2⟩:=List.nodup_cons.1 h
  show (x=e∧∀ y∈r,y.f_P≠e.f_P)∨LastIn r x↔_
  rw [last_nd h2,List.mem_cons]
  exact ⟨fun h=>h.elim (fun h=>.inl h.1) .inr,fun h=>h.elim (fun h=>.inl ⟨h,fun y hy ey=>h1 (List.mem_map.2 ⟨y,hy,ey⟩)⟩) .inr⟩
structure Counts (l O:List S_api_Entry):Prop where
 sorted:Sorted O
 len:O.length≤l.length
 mem:∀ x,x∈O↔LastIn (l.filter pE) x
 code:flat_Own l=some O
 doc:crawlwayref59_Own l=some O
theorem counts(l:List S_api_Entry)(hok:okL l)(hn:l.length≤10000):∃ O,Counts l O:=by
 have hK:∀ x∈keepL l,IsE x:=fun x hx=>isE_of hok ((keep_sub l).subset hx)
 have hs:Sorted (isort lessE (keepL l)):=by
  refine ⟨fun x hx=>hK x ((isort_perm lessE _).mem_iff.1 hx),isort_up lessE_swo _ fun x hx=>(hK x hx).ok,?_⟩
  rw [nodup_perm ((isort_perm lessE (keepL l)).map S_api_Entry.f_P)]
  exact keep_nd l
 have hr:=(Sorted.fold (l.filter pE) .nil fun x hx=>isE_of hok hx).1
 have hmem:∀ x,x∈isort lessE (keepL l)↔LastIn (l.filter pE) x:=fun x=>by rw [(isort_perm lessE _).mem_iff,mem_keep]
 have heq:isort lessE (keepL l)=(l.filter pE).foldl putE []:=hs.ext hr fun x=>by
  rw [hmem,mem_fold]
  simp
 have hlen:(keepL l).length≤l.length:=Nat.le_trans (keep_sub l).length_le (List.length_filter_le ..)
 refine ⟨_,hs,by rw [isort_length];exact hlen,hmem,?_,by rw [heq];exact refOwn_code l hok hn⟩
 unfold flat_Own
 have:=flatOwn_loop l hok hn l [] [] rfl (Nat.le_refl _)
 show (flat_Own.l0 l [] (([]:List S_api_Entry).length:Int)>>=_)=_
 rw [this,bindM_some,List.nil_append]
 unfold sort_Entry
 rw [if_pos ⟨List.all_eq_true.2 fun x hx=>(hK x hx).ok,keep_nd l,by omega⟩];rfl
end Go.Proofs.YtahlbjmafceoeaaGreatDoor.Agg
namespace Go.Proofs.YtahlbjmafceoeaaGreatDoor.Agg
open E Go.RowKit Adr Cid
abbrev En:=Tr×Int
def en(e:En):S_api_Entry:={ f_P:=pf e.1,f_Owner:=e.2 }
theorem allE{O:List S_api_Entry}(h:Sorted O):∃ T:List En,(∀ e∈T,Good e.1)∧O=T.map en∧(T.map Prod.fst).Nodup:=by
 have key:∀ O:List S_api_Entry,(∀ x∈O,IsE x)→∃ T:List En,(∀ e∈T,Good e.1)∧O=T.map en:=by
  intro O h
  induction O with
  | nil=>exact ⟨[],fun e h=>(by cases h),rfl⟩
  | cons x O ih =>
   obtain ⟨t,ht,e⟩:=h x (List.mem_cons_self ..)
   obtain ⟨T,h1,h2⟩:=ih fun y hy=>h y (List.mem_cons_of_mem _ hy)
   refine ⟨(t,x.f_Owner)::T,fun u hu=>?_,?_⟩
   ·rcases List.mem_cons.1 hu with rfl | hu
    ·exact ht
    ·exact h1 u hu
   ·rw [List.map_cons,←h2]
    congr 1
    unfold en
    rw [←e]
 obtain ⟨T,h1,h2⟩:=key O h.is
 refine ⟨T,h1,h2,?_⟩
 have hn:=h.nd
 rw [h2,List.map_map] at hn
 have e:S_api_Entry.f_P∘en=pf∘Prod.fst:=rfl
 rw [e,←List.map_map] at hn
 have inj:∀ L:List Tr,(L.map pf).Nodup→L.Nodup:=by
  intro L hL
  induction L with
  | nil=>exact List.nodup_nil
  | cons t L ih =>
   rw [List.map_cons] at hL
   obtain ⟨a,b⟩:=List.nodup_cons.1 hL
   exact List.nodup_cons.2 ⟨fun ht=>a (List.mem_map.2 ⟨t,ht,rfl⟩),ih b⟩
 exact inj _ hn
theorem fst_on{T:List En}(h:(T.map Prod.fst).Nodup){x y:En}(hx:x∈T)(hy:y∈T)(e:x.1=y.1):x=y:=nodup_on h x hx y hy e
def bitsOf(e:En):Nat:=wd e.1.1-e.1.2.2
def better(x:En):Option En→Bool
 | none=>true
 | some y=>decide (bitsOf x>bitsOf y)
def stepB(p:En→Bool)(b:Option En)(x:En):Option En:=if p x=true then (if better x b=true then some x else b) else b
def best(p:En→Bool)(T:List En):Option En:=T.foldl (stepB p) none
theorem stepB_no{p:En→Bool}{b:Option En}{x:En}(h:p x=false):stepB p b x=b:=by unfold stepB;rw [h];rfl
theorem stepB_none{p:En→Bool}{x:En}(h:p x=true):stepB p none x=some x:=by unfold stepB;rw [h];rfl
theorem stepB_gt{p:En→Bool}{x y:En}(h:p x=true)(hb:bitsOf x>bitsOf y):stepB p (some y) x=some x:=by
 unfold stepB
 rw [h,if_pos rfl]
 show (if decide (bitsOf x>bitsOf y)=true then some x else some y)=_
 rw [decide_eq_true hb,if_pos rfl]
theorem stepB_le{p:En→Bool}{x y:En}(h:p x=true)(hb:¬ bitsOf x>bitsOf y):stepB p (some y) x=some y:=by
 unfold stepB
 rw [h,if_pos rfl]
 show (if decide (bitsOf x>bitsOf y)=true then some x else some y)=_
 rw [decide_eq_false hb,if_neg Bool.false_ne_true]
theorem fold_best(p:En→Bool):∀ (T:List En) (b:Option En),(T.foldl (stepB p) b=none↔b=none∧∀ x∈T,p x=false)∧∀ m,T.foldl (stepB p) b=some m→(b=some m∨(m∈T∧p m=true))∧(∀ y,b=some y→bitsOf y≤bitsOf m)∧∀ x∈T,p x=true→bitsOf x≤bitsOf m
 | [],b=>⟨by simp,fun m h=>⟨.inl h,fun y hy=>by rw [List.foldl_nil] at h;rw [h] at hy;cases hy;exact Nat.le_refl _,fun x hx=>by cases hx⟩⟩
 | x::T,b=>by
  obtain ⟨h1,h2⟩:=fold_best p T (stepB p b x)
  rw [List.foldl_cons]
  cases hp:p x with
  | false =>
   have e:stepB p b x=b:=by unfold stepB;rw [hp];rfl
   rw [e] at h1 h2 ⊢
   refine ⟨?_,fun m hm=>?_⟩
   ·rw [h1]
    constructor
    ·rintro ⟨a,c⟩
     refine ⟨a,fun y hy=>?_⟩
     rcases List.mem_cons.1 hy with rfl | hy
     ·exact hp
     ·exact c y hy
    ·rintro ⟨a,c⟩
     exact ⟨a,fun y hy=>c y (List.mem_cons_of_mem _ hy)⟩
   ·obtain ⟨a,c,d⟩:=h2 m hm
    refine ⟨a.elim .inl fun q=>.inr ⟨List.mem_cons_of_mem _ q.1,q.2⟩,c,fun y hy hpy=>?_⟩
    rcases List.mem_cons.1 hy with rfl | hy
    ·rw [hp] at hpy;cases hpy
    ·exact d y hy hpy
  | true =>
   have hs:∃ y,stepB p b x=some y∧(y=x∨b=some y)∧bitsOf x≤bitsOf y∧∀ z,b=some z→bitsOf z≤bitsOf y:=by
    unfold stepB
    rw [hp,if_pos rfl]
    cases b with
    | none=>exact ⟨x,rfl,.inl rfl,Nat.le_refl _,fun z hz=>by cases hz⟩
    | some z =>
     by_cases hb:bitsOf x>bitsOf z
     ·refine ⟨x,?_,.inl rfl,Nat.le_refl _,fun z' hz=>by cases hz;omega⟩
      show (if decide (bitsOf x>bitsOf z)=true then some x else some z)=_
      rw [decide_eq_true hb,if_pos rfl]
     ·refine ⟨z,?_,.inr rfl,by omega,fun z' hz=>by cases hz;exact Nat.le_refl _⟩
      show (if decide (bitsOf x>bitsOf z)=true then some x else some z)=_
      rw [decide_eq_false hb,if_neg Bool.false_ne_true]
   obtain ⟨y,e,hy,hb1,hb2⟩:=hs
   rw [e] at h1 h2 ⊢
   refine ⟨?_,fun m hm=>?_⟩
   ·rw [h1]
    constructor
    ·rintro ⟨a,_⟩;cases a
    ·rintro ⟨_,c⟩
     have:=c x (List.mem_cons_self ..)
     rw [hp] at this;cases this
   ·obtain ⟨a,c,d⟩:=h2 m hm
    have hym:=c y rfl
    refine ⟨?_,fun z hz=>Nat.le_trans (hb2 z hz) hym,fun z hz hpz=>?_⟩
    ·rcases a with a | a
     ·cases a
      rcases hy with rfl | hy
      ·exact .inr ⟨List.mem_cons_self ..,hp⟩
      ·exact .inl hy
     ·exact .inr ⟨List.mem_cons_of_mem _ a.1,a.2⟩
    ·rcases List.mem_cons.1 hz with rfl | hz
     ·exact Nat.le_trans hb1 hym
     ·exact d z hz hpz
theorem best_none{p:En→Bool}{T:List En}:best p T=none↔∀ x∈T,p x=false:=by
 unfold best;rw [(fold_best p T none).1];simp
theorem best_some{p:En→Bool}{T:List En}{m:En}(h:best p T=some m):m∈T∧p m=true∧∀ x∈T,p x=true→bitsOf x≤bitsOf m:=by
 obtain ⟨a,_,c⟩:=(fold_best p T none).2 m h
 rcases a with a | a
 ·cases a
 ·exact ⟨a.1,a.2,c⟩
def zE:S_api_Entry:={ f_P:={ f_A:={ f_V:=(0:Int),f_B:=(Vector.replicate 16 (0:Int):(Vector Int 16)) },f_Bits:=(0:Int) },f_Owner:=(0:Int) }
def outE(b:Option En):S_api_Entry:=match b with | none=>zE | some x=>en x
theorem bits_gt(x y:En):decide ((en x).f_P.f_Bits>(en y).f_P.f_Bits)=decide (bitsOf x>bitsOf y):=by
 rw [decide_eq_decide]
 show ((wd x.1.1-x.1.2.2:Nat):Int)>((wd y.1.1-y.1.2.2:Nat):Int)↔bitsOf x>bitsOf y
 unfold bitsOf;omega
theorem find_loop(a:S_api_Addr)(p:En→Bool)(T:List En)(hn:T.length≤100000)(hp:∀ e∈T,crawlwayref11_Has (pf e.1) a=some (p e)):∀ (B A:List En) (b:Option En),T=A++B →
  crawlwayref25_Find.l0 (T.map en) a b.isSome (A.length:Int) (outE b)=some ((B.foldl (stepB p) b).isSome,outE (B.foldl (stepB p) b))
 | [],A,b,hx=>by
  have hd:decide ((A.length:Int)<((T.map en).length:Int))=false:=decide_eq_false (by rw [hx];simp)
  rw [crawlwayref25_Find.l0.eq_def,hd,if_neg Bool.false_ne_true];rfl
 | x::B,A,b,hx=>by
  have hTl:T.length=A.length+(B.length+1):=by rw [hx];simp
  have hin:(0:Int)≤(A.length:Int)∧(A.length:Int)<((T.map en).length:Int):=by rw [List.length_map];omega
  have hg:lget (T.map en) (A.length:Int)=en x:=by
   rw [hx,List.map_append,List.map_cons]
   have:=lget_mid (A.map en) (en x) (B.map en)
   rwa [List.length_map] at this
  have hwi:wr .i64 ((A.length:Int)+1)=((A++[x]).length:Int):=wr_mid A x (by omega)
  have ih:=fun c=>find_loop a p T hn hp B (A++[x]) c (by rw [hx];simp)
  have hpx:crawlwayref11_Has (en x).f_P a=some (p x):=hp x (by rw [hx];simp)
  rw [crawlwayref25_Find.l0.eq_def,decide_eq_true hin.2,if_pos rfl]
  simp only [if_pos hin,hg,hwi,hpx,bindM_some]
  rw [List.foldl_cons]
  cases hpp:p x with
  | false=>rw [if_neg Bool.false_ne_true,stepB_no hpp];exact ih b
  | true =>
   rw [if_pos rfl]
   cases b with
   | none=>rw [stepB_none hpp];exact ih (some x)
   | some y =>
    show (if (!true)=true then _ else (if decide ((en x).f_P.f_Bits>(en y).f_P.f_Bits)=true then _ else _))=_
    rw [if_neg (by decide),bits_gt]
    by_cases hd:bitsOf x>bitsOf y
    ·rw [decide_eq_true hd,if_pos rfl,stepB_gt hpp hd];exact ih (some x)
    ·rw [decide_eq_false hd,if_neg Bool.false_ne_true,stepB_le hpp hd];exact ih (some y)
theorem find_code(a:S_api_Addr)(p:En→Bool)(T:List En)(hn:T.length≤100000)(hp:∀ e∈T,crawlwayref11_Has (pf e.1) a=some (p e)):crawlwayref25_Find (T.map en) a=some (outE (best p T),(best p T).isSome):=by
 have:=find_loop a p T hn hp T [] none rfl
 unfold crawlwayref25_Find
 show (crawlwayref25_Find.l0 (T.map en) a (none:Option En).isSome (([]:List En).length:Int) (outE none)>>=_)=_
 rw [this];rfl
def pa(x e:En):Bool:=!decide (e.1=x.1)&&decide (cont e.1 x.1)
theorem pf_eq{x e:En}(hx:Good x.1)(he:Good e.1):decide ((en e).f_P=(en x).f_P)=decide (e.1=x.1):=by
 rw [decide_eq_decide]
 exact ⟨fun h=>pf_inj he hx h,fun h=>congrArg pf h⟩
theorem above_loop(x:En)(hx0:Good x.1)(T:List En)(hn:T.length≤100000)(hT:∀ e∈T,Good e.1):∀ (B A:List En) (b:Option En),T=A++B →
  flat_above.l0 (T.map en) (en x) b.isSome (A.length:Int) (outE b)=some ((B.foldl (stepB (pa x)) b).isSome,outE (B.foldl (stepB (pa x)) b))
 | [],A,b,hx=>by
  have hd:decide ((A.length:Int)<((T.map en).length:Int))=false:=decide_eq_false (by rw [hx];simp)
  rw [flat_above.l0.eq_def,hd,if_neg Bool.false_ne_true];rfl
 | e::B,A,b,hx=>by
  have hTl:T.length=A.length+(B.length+1):=by rw [hx];simp
  have hin:(0:Int)≤(A.length:Int)∧(A.length:Int)<((T.map en).length:Int):=by rw [List.length_map];omega
  have hg:lget (T.map en) (A.length:Int)=en e:=by
   rw [hx,List.map_append,List.map_cons]
   have:=lget_mid (A.map en) (en e) (B.map en)
   rwa [List.length_map] at this
  have hwi:wr .i64 ((A.length:Int)+1)=((A++[e]).length:Int):=wr_mid A e (by omega)
  have ih:=fun c=>above_loop x hx0 T hn hT B (A++[e]) c (by rw [hx];simp)
  have he:=hT e (by rw [hx];simp)
  have hc:cidr_Covers (en e).f_P (en x).f_P=some (decide (cont e.1 x.1)):=(cov_pf he hx0).1
  rw [flat_above.l0.eq_def,decide_eq_true hin.2,if_pos rfl]
  simp only [if_pos hin,hg,hwi,hc,bindM_some,pf_eq hx0 he]
  rw [List.foldl_cons]
  have hpa:pa x e=(!decide (e.1=x.1)&&decide (cont e.1 x.1)):=rfl
  cases h1:decide (e.1=x.1) with
  | true =>
   rw [h1,Bool.not_true,Bool.false_and] at hpa
   rw [if_neg (by decide),stepB_no hpa];exact ih b
  | false =>
   rw [h1,Bool.not_false,Bool.true_and] at hpa
   rw [if_pos (by decide)]
   cases h2:decide (cont e.1 x.1) with
   | false=>rw [h2] at hpa;rw [if_neg Bool.false_ne_true,stepB_no hpa];exact ih b
   | true =>
    rw [h2] at hpa
    rw [if_pos rfl]
    cases b with
    | none=>rw [stepB_none hpa];exact ih (some e)
    | some y =>
     show (if (!true)=true then _ else (if decide ((en e).f_P.f_Bits>(en y).f_P.f_Bits)=true then _ else _))=_
     rw [if_neg (by decide),bits_gt]
     by_cases hd:bitsOf e>bitsOf y
     ·rw [decide_eq_true hd,if_pos rfl,stepB_gt hpa hd];exact ih (some e)
     ·rw [decide_eq_false hd,if_neg Bool.false_ne_true,stepB_le hpa hd];exact ih (some y)
theorem above_code(x:En)(hx0:Good x.1)(T:List En)(hn:T.length≤100000)(hT:∀ e∈T,Good e.1):flat_above (T.map en) (en x)=some (outE (best (pa x) T),(best (pa x) T).isSome):=by
 have:=above_loop x hx0 T hn hT T [] none rfl
 unfold flat_above
 show (flat_above.l0 (T.map en) (en x) (none:Option En).isSome (([]:List En).length:Int) (outE none)>>=_)=_
 rw [this];rfl
def keepT(T:List En)(x:En):Bool:=match best (pa x) T with | none=>true | some y=>y.2 != x.2
def thinT(T:List En):List En:=T.filter (keepT T)
theorem thin_loop(T:List En)(hn:T.length≤100000)(hT:∀ e∈T,Good e.1):∀ (B A:List En) (out:List S_api_Entry),T=A++B→out.length≤A.length →
  flat_Thin.l0 (T.map en) out (A.length:Int)=some (out++(B.filter (keepT T)).map en)
 | [],A,out,hx,ho=>by
  have hd:decide ((A.length:Int)<((T.map en).length:Int))=false:=decide_eq_false (by rw [hx];simp)
  rw [flat_Thin.l0.eq_def,hd,if_neg Bool.false_ne_true]
  show some out=some (out++[])
  rw [List.append_nil]
 | e::B,A,out,hx,ho=>by
  have hTl:T.length=A.length+(B.length+1):=by rw [hx];simp
  have hin:(0:Int)≤(A.length:Int)∧(A.length:Int)<((T.map en).length:Int):=by rw [List.length_map];omega
  have hg:lget (T.map en) (A.length:Int)=en e:=by
   rw [hx,List.map_append,List.map_cons]
   have:=lget_mid (A.map en) (en e) (B.map en)
   rwa [List.length_map] at this
  have hwi:wr .i64 ((A.length:Int)+1)=((A++[e]).length:Int):=wr_mid A e (by omega)
  have hA1:(A++[e]).length=A.length+1:=by simp
  have ih:=fun o (h:o.length≤A.length+1)=>thin_loop T hn hT B (A++[e]) o (by rw [hx];simp) (by omega)
  have he:=hT e (by rw [hx];simp)
  rw [flat_Thin.l0.eq_def,decide_eq_true hin.2,if_pos rfl,if_pos hin,hg,hwi,above_code e he T hn hT,bindM_some]
  have hg2:(out.length+1)*40≤140737488355328:=by omega
  have hyes:(if (out.length+1)*40≤140737488355328 then flat_Thin.l0 (T.map en) (out++[en e]) ((A++[e]).length:Int) else none)=some (out++(en e::(B.filter (keepT T)).map en)):=by
   rw [if_pos hg2,ih (out++[en e]) (by simp;omega),List.append_assoc];rfl
  cases hk:keepT T e with
  | true =>
   rw [List.filter_cons_of_pos hk,List.map_cons,hyes]
   unfold keepT at hk
   cases hb:best (pa e) T with
   | none=>rfl
   | some y =>
    rw [hb] at hk
    have hk:(y.2 != e.2)=true:=hk
    show (if (!true)=true then _ else (if (y.2 != e.2)=true then _ else _))=_
    rw [if_neg (by decide),if_pos hk]
  | false =>
   rw [List.filter_cons_of_neg (by rw [hk];decide),hyes]
   unfold keepT at hk
   cases hb:best (pa e) T with
   | none=>rw [hb] at hk;cases hk
   | some y =>
    rw [hb] at hk
    have hk:(y.2 != e.2)=false:=hk
    show (if (!true)=true then _ else (if (y.2 != e.2)=true then _ else _))=_
    rw [if_neg (by decide),hk,if_neg Bool.false_ne_true]
    exact ih out (by omega)
theorem flatThin_code(l:List S_api_Entry)(T:List En)(hn:T.length≤100000)(hT:∀ e∈T,Good e.1)(h:flat_Own l=some (T.map en)):flat_Thin l=some ((thinT T).map en):=by
 unfold flat_Thin
 have:=thin_loop T hn hT T [] [] rfl (Nat.le_refl _)
 rw [h,bindM_some]
 show (flat_Thin.l0 (T.map en) [] (([]:List En).length:Int)>>=_)=_
 rw [this];rfl
theorem spare_loop(T:List En)(hn:T.length≤100000)(hT:∀ e∈T,Good e.1)(hnd:(T.map Prod.fst).Nodup)(at_:Nat)(x:En)(hat:at_<T.length)(hx:T[at_]? = some x):∀ (B A:List En) (b:Option En) (j:Int),T=A++B→(match b with | none=>j = -1 | some y=>0≤j∧j<(T.length:Int)∧lget (T.map en) j=en y) →
  ∃ j',crawlwayref59_spare.l0 (T.map en) (at_:Int) j (A.length:Int)=some j'∧(match B.foldl (stepB (pa x)) b with | none=>j' = -1 | some y=>0≤j'∧j'<(T.length:Int)∧lget (T.map en) j'=en y)
 | [],A,b,j,hx,hj=>by
  have hd:decide ((A.length:Int)<((T.map en).length:Int))=false:=decide_eq_false (by rw [hx];simp)
  refine ⟨j,?_,hj⟩
  rw [crawlwayref59_spare.l0.eq_def,hd,if_neg Bool.false_ne_true]
 | e::B,A,b,j,hxx,hj=>by
  have hTl:T.length=A.length+(B.length+1):=by rw [hxx];simp
  have hml:(T.map en).length=T.length:=List.length_map ..
  have hin:(0:Int)≤(A.length:Int)∧(A.length:Int)<((T.map en).length:Int):=by omega
  have hin2:(0:Int)≤(at_:Int)∧(at_:Int)<((T.map en).length:Int):=by omega
  have hg:lget (T.map en) (A.length:Int)=en e:=by
   rw [hxx,List.map_append,List.map_cons]
   have:=lget_mid (A.map en) (en e) (B.map en)
   rwa [List.length_map] at this
  have hg2:lget (T.map en) (at_:Int)=en x:=by
   unfold lget
   rw [Int.toNat_natCast,List.getD_eq_getElem?_getD,List.getElem?_map,hx];rfl
  have hwi:wr .i64 ((A.length:Int)+1)=((A++[e]).length:Int):=wr_mid A e (by omega)
  have ih:=fun c j (hj:match c with | none=>j = -1 | some y=>0≤j∧j<(T.length:Int)∧lget (T.map en) j=en y)=>spare_loop T hn hT hnd at_ x hat hx B (A++[e]) c j (by rw [hxx];simp) hj
  have hem:e∈T:=by rw [hxx];simp
  have hxm:x∈T:=List.mem_of_getElem? hx
  have hc:crawlwayref11_Covers (en e).f_P (en x).f_P=some (decide (cont e.1 x.1)):=(cov_pf (hT e hem) (hT x hxm)).2
  have hsame:((A.length:Int) != (at_:Int))=!decide (e.1=x.1):=by
   have hAe:T[A.length]? = some e:=by rw [hxx];simp
   rw [Bool.eq_iff_iff,bne_iff_ne,Bool.not_eq_true',decide_eq_false_iff_not]
   constructor
   ·intro h ee
    apply h
    have e1:(T.map Prod.fst)[A.length]? = some e.1:=by rw [List.getElem?_map,hAe];rfl
    have e2:(T.map Prod.fst)[at_]? = some x.1:=by rw [List.getElem?_map,hx];rfl
    have:=(List.getElem?_inj (by rw [List.length_map];omega) hnd).1 (show (T.map Prod.fst)[A.length]? = (T.map Prod.fst)[at_]? by rw [e1,e2,ee])
    omega
   ·intro h ee
    apply h
    have:A.length=at_:=by omega
    rw [this,hx] at hAe
    rw [Option.some.inj hAe]
  rw [crawlwayref59_spare.l0.eq_def,decide_eq_true hin.2,if_pos rfl,hsame,List.foldl_cons]
  simp only [if_pos hin,if_pos hin2,hg,hg2,hwi,hc,bindM_some]
  have hpa:pa x e=(!decide (e.1=x.1)&&decide (cont e.1 x.1)):=rfl
  cases h1:decide (e.1=x.1) with
  | true =>
   rw [h1,Bool.not_true,Bool.false_and] at hpa
   rw [Bool.not_true,if_neg Bool.false_ne_true,stepB_no hpa];exact ih b j hj
  | false =>
   rw [h1,Bool.not_false,Bool.true_and] at hpa
   rw [Bool.not_false,if_pos rfl]
   cases h2:decide (cont e.1 x.1) with
   | false=>rw [h2] at hpa;rw [if_neg Bool.false_ne_true,stepB_no hpa];exact ih b j hj
   | true =>
    rw [h2] at hpa
    rw [if_pos rfl]
    have hme:0≤(A.length:Int)∧(A.length:Int)<(T.length:Int)∧lget (T.map en) (A.length:Int)=en e:=⟨by omega,by omega,hg⟩
    cases b with
    | none =>
     have hj:j = -1:=hj
     rw [hj,if_pos (by decide),stepB_none hpa]
     exact ih (some e) _ hme
    | some y =>
     obtain ⟨j1,j2,j3⟩:0≤j∧j<(T.length:Int)∧lget (T.map en) j=en y:=hj
     rw [decide_eq_false (show ¬ j<0 by omega),if_neg Bool.false_ne_true,if_pos (show 0≤j∧j<((T.map en).length:Int) by omega),j3,bits_gt]
     by_cases hd:bitsOf e>bitsOf y
     ·rw [decide_eq_true hd,if_pos rfl,stepB_gt hpa hd];exact ih (some e) _ hme
     ·rw [decide_eq_false hd,if_neg Bool.false_ne_true,stepB_le hpa hd];exact ih (some y) j ⟨j1,j2,j3⟩
theorem spare_code(T:List En)(hn:T.length≤100000)(hT:∀ e∈T,Good e.1)(hnd:(T.map Prod.fst).Nodup)(at_:Nat)(x:En)(hat:at_<T.length)(hx:T[at_]? = some x):crawlwayref59_spare (T.map en) (at_:Int)=some (!keepT T x):=by
 have hml:(T.map en).length=T.length:=List.length_map ..
 have hg2:lget (T.map en) (at_:Int)=en x:=by
  unfold lget
  rw [Int.toNat_natCast,List.getD_eq_getElem?_getD,List.getElem?_map,hx];rfl
 obtain ⟨j,h1,h2⟩:=spare_loop T hn hT hnd at_ x hat hx T [] none (-1) rfl rfl
 unfold crawlwayref59_spare
 show (crawlwayref59_spare.l0 (T.map en) (at_:Int) (-1) (([]:List En).length:Int)>>=_)=_
 rw [h1,bindM_some]
 unfold keepT
 have e:T.foldl (stepB (pa x)) none=best (pa x) T:=rfl
 rw [e] at h2
 cases hb:best (pa x) T with
 | none =>
  rw [hb] at h2
  have h2:j = -1:=h2
  rw [h2];rfl
 | some y =>
  rw [hb] at h2
  obtain ⟨j1,j2,j3⟩:0≤j∧j<(T.length:Int)∧lget (T.map en) j=en y:=h2
  rw [decide_eq_true (show j≥0 by omega),if_pos rfl,if_pos (by omega),if_pos (by omega),j3,hg2]
  show some (y.2==x.2)=some (!(!(y.2==x.2)))
  rw [Bool.not_not]
theorem refThin_loop(T:List En)(hn:T.length≤100000)(hT:∀ e∈T,Good e.1)(hnd:(T.map Prod.fst).Nodup):∀ (B A:List En) (out:List S_api_Entry),T=A++B→out.length≤A.length →
  crawlwayref59_Thin.l0 (T.map en) out (A.length:Int)=some (out++(B.filter (keepT T)).map en)
 | [],A,out,hx,ho=>by
  have hd:decide ((A.length:Int)<((T.map en).length:Int))=false:=decide_eq_false (by rw [hx];simp)
  rw [crawlwayref59_Thin.l0.eq_def,hd,if_neg Bool.false_ne_true]
  show some out=some (out++[])
  rw [List.append_nil]
 | e::B,A,out,hx,ho=>by
  have hTl:T.length=A.length+(B.length+1):=by rw [hx];simp
  have hin:(0:Int)≤(A.length:Int)∧(A.length:Int)<((T.map en).length:Int):=by rw [List.length_map];omega
  have hg:lget (T.map en) (A.length:Int)=en e:=by
   rw [hx,List.map_append,List.map_cons]
   have:=lget_mid (A.map en) (en e) (B.map en)
   rwa [List.length_map] at this
  have hwi:wr .i64 ((A.length:Int)+1)=((A++[e]).length:Int):=wr_mid A e (by omega)
  have hA1:(A++[e]).length=A.length+1:=by simp
  have ih:=fun o (h:o.length≤A.length+1)=>refThin_loop T hn hT hnd B (A++[e]) o (by rw [hx];simp) (by omega)
  have hAe:T[A.length]? = some e:=by rw [hx];simp
  rw [crawlwayref59_Thin.l0.eq_def,decide_eq_true hin.2,if_pos rfl,spare_code T hn hT hnd A.length e (by omega) hAe,bindM_some,if_pos hin,hg,hwi]
  cases hk:keepT T e with
  | true =>
   rw [if_pos (by decide),List.filter_cons_of_pos hk,List.map_cons,if_pos (by omega),ih (out++[en e]) (by simp;omega),List.append_assoc];rfl
  | false =>
   rw [if_neg (by decide),List.filter_cons_of_neg (by rw [hk];decide)]
   exact ih out (by omega)
theorem refThin_code(l:List S_api_Entry)(T:List En)(hn:T.length≤100000)(hT:∀ e∈T,Good e.1)(hnd:(T.map Prod.fst).Nodup)(h:crawlwayref59_Own l=some (T.map en)):crawlwayref59_Thin l=some ((thinT T).map en):=by
 unfold crawlwayref59_Thin
 have:=refThin_loop T hn hT hnd T [] [] rfl (Nat.le_refl _)
 rw [h,bindM_some]
 show (crawlwayref59_Thin.l0 (T.map en) [] (([]:List En).length:Int)>>=_)=_
 rw [this];rfl
end Go.Proofs.YtahlbjmafceoeaaGreatDoor.Agg
namespace Go.Proofs.YtahlbjmafceoeaaGreatDoor.Agg
open E Go.RowKit Adr Cid
def inP(V:Int)(a:Nat)(t:Tr):Prop:=V=t.1∧t.2.1≤a∧a≤endT t
instance inPDec (V:Int) (a:Nat) (t:Tr):Decidable (inP V a t):=inferInstanceAs (Decidable (_∧_))
theorem nest{t u:Tr}(ht:Good t)(hu:Good u)(h1:u.1=t.1)(hk:u.2.2≤t.2.2){p:Nat}(ht1:t.2.1≤p)(ht2:p≤endT t)(hu1:u.2.1≤p)(hu2:p≤endT u):cont t u∧endT u≤endT t:=by
 obtain ⟨V,N,k⟩:=t
 obtain ⟨W,M,j⟩:=u
 unfold endT at *
 unfold cont endT
 simp only at *
 have hd1:2 ^ k ∣ N:=ht.dvd
 have hd2:2 ^ j ∣ M:=hu.dvd
 have hp1:0<2 ^ k:=Nat.pow_pos (by omega)
 have hp2:0<2 ^ j:=Nat.pow_pos (by omega)
 have hjk:2 ^ j ∣ 2 ^ k:=Nat.pow_dvd_pow 2 hk
 have hd3:2 ^ j ∣ N:=Nat.dvd_trans hjk hd1
 obtain ⟨a,rfl⟩:=hd2
 obtain ⟨b,rfl⟩:=hd3
 obtain ⟨c,hc⟩:=hjk
 generalize 2 ^ j=q at *
 have hab:b≤a:=by
  rcases Nat.lt_or_ge a b with h | h
  ·have:=Nat.mul_le_mul_left q (show a+1≤b from h)
   rw [Nat.mul_add,Nat.mul_one] at this
   omega
  ·exact h
 have hac:a<b+c:=by
  rcases Nat.lt_or_ge a (b+c) with h | h
  ·exact h
  ·have:=Nat.mul_le_mul_left q h
   rw [Nat.mul_add,←hc] at this
   omega
 have h3:=Nat.mul_le_mul_left q hab
 have h4:=Nat.mul_le_mul_left q (show a+1≤b+c from hac)
 rw [Nat.mul_add,Nat.mul_add,Nat.mul_one,←hc] at h4
 exact ⟨⟨h1,hk,h3,by omega⟩,by omega⟩
theorem cont_same{t u:Tr}(ht:Good t)(hu:Good u)(h:cont t u)(hk:t.2.2≤u.2.2):t=u:=by
 have h2:=(nest hu ht h.1.symm hk (Nat.le_refl _) (le_endT u) h.2.2.1 h.2.2.2).1
 obtain ⟨V,N,k⟩:=t
 obtain ⟨W,M,j⟩:=u
 obtain ⟨a1,a2,a3,a4⟩:=h
 obtain ⟨b1,b2,b3,b4⟩:=h2
 simp only at *
 have e1:V=W:=b1
 have e2:N=M:=Nat.le_antisymm a3 b3
 have e3:k=j:=Nat.le_antisymm hk a2
 rw [e1,e2,e3]
theorem bits_k{x y:En}(hx:Good x.1)(hy:Good y.1)(h:x.1.1=y.1.1):bitsOf x≤bitsOf y↔y.1.2.2≤x.1.2.2:=by
 have h1:=hx.le
 have h2:=hy.le
 unfold bitsOf
 rw [h] at h1 ⊢
 omega
theorem same_of{T:List En}(hT:∀ e∈T,Good e.1)(hnd:(T.map Prod.fst).Nodup){x y:En}(hx:x∈T)(hy:y∈T){V:Int}{a:Nat}(h1:inP V a x.1)(h2:inP V a y.1)(hb:bitsOf x=bitsOf y):x=y:=by
 have hV:x.1.1=y.1.1:=h1.1.symm.trans h2.1
 have k1:=(bits_k (hT x hx) (hT y hy) hV).1 (by omega)
 have k2:=(bits_k (hT y hy) (hT x hx) hV.symm).1 (by omega)
 have hc:=(nest (hT x hx) (hT y hy) hV.symm k1 h1.2.1 h1.2.2 h2.2.1 h2.2.2).1
 exact fst_on hnd hx hy (cont_same (hT x hx) (hT y hy) hc k2)
end Go.Proofs.YtahlbjmafceoeaaGreatDoor.Agg
set_option maxRecDepth 20000
namespace Go.Proofs.YtahlbjmafceoeaaGreatDoor.Lint
open E Go.RowKit Adr Cid Agg
theorem lget_at{α:Type}[Inhabited α]{xs:List α}{i:Nat}(h:i<xs.length):lget xs (i:Int)=xs[i]:=by
 unfold lget
 rw [Int.toNat_natCast,List.getD_eq_getElem?_getD,List.getElem?_eq_getElem h];rfl
theorem wr1{i:Nat}(h:i≤1000000):wr .i64 ((i:Int)+1)=((i+1:Nat):Int):=by rw [wr_i64 (by omega) (by omega)];omega
theorem wrm{i:Nat}(h:i≤1000000)(h0:0<i):wr .i64 ((i:Int)-1)=((i-1:Nat):Int):=by rw [wr_i64 (by omega) (by omega)];omega
section
variable {κ : Type} [DecidableEq κ]
def tm(L:List κ):List (κ×Bool):=L.map fun k=>(k,true)
theorem mfind_tm:∀ (L:List κ) (k:κ),mfind (tm L) k=if k∈L then some true else none
 | [],k=>by rw [if_neg (by simp)];rfl
 | a::L,k=>by
  show (if k=a then some true else mfind (tm L) k)=_
  by_cases h:k=a
  ·rw [if_pos h,if_pos (by rw [h];exact List.mem_cons_self ..)]
  ·rw [if_neg h,mfind_tm L k]
   by_cases h2:k∈L
   ·rw [if_pos h2,if_pos (List.mem_cons_of_mem _ h2)]
   ·rw [if_neg h2,if_neg (fun hm=>(List.mem_cons.1 hm).elim h h2)]
theorem mget_yes{L:List κ}{k:κ}(h:k∈L):mget (tm L) k false=true:=by
 unfold mget
 rw [mfind_tm,if_pos h];rfl
theorem mget_no{L:List κ}{k:κ}(h:k∉L):mget (tm L) k false=false:=by
 unfold mget
 rw [mfind_tm,if_neg h];rfl
theorem mput_tm:∀ (L:List κ) (k:κ),k∉L→mput (tm L) k true=tm (L++[k])
 | [],k,_=>rfl
 | a::L,k,h=>by
  show (if k=a then (k,true)::tm L else (a,true)::mput (tm L) k true)=(a,true)::tm (L++[k])
  rw [if_neg (fun e=>h (by rw [e];exact List.mem_cons_self ..)),mput_tm L k (fun hm=>h (List.mem_cons_of_mem _ hm))]
omit [DecidableEq κ] in
theorem tm_len(L:List κ):(tm L).length=L.length:=List.length_map ..
end
abbrev Px:=S_api_Prefix
def prevOk:Option Px→Px→Bool
 | none,_=>true
 | some p,q=>lessP p q
def risL:Option Px→List Px→Bool
 | _,[]=>true
 | pv,q::r=>rgt q&&(prevOk pv q&&risL (some q) r)
theorem risL_cons(pv:Option Px)(q:Px)(r:List Px):risL pv (q::r)=(rgt q&&(prevOk pv q&&risL (some q) r)):=rfl
def freshL:List Px→List Px→Option (List Px)
 | all,[]=>some all
 | all,q::r=>if q∈all then none else freshL (all++[q]) r
theorem freshL_cons(all:List Px)(q:Px)(r:List Px):freshL all (q::r)=if q∈all then none else freshL (all++[q]) r:=rfl
def addL:Option Px→List Px→List Px→Option (List Px)
 | _,all,[]=>some all
 | pv,all,q::r=>if rgt q=true∧prevOk pv q=true∧q∉all then addL (some q) (all++[q]) r else none
theorem addL_cons(pv:Option Px)(all:List Px)(q:Px)(r:List Px):addL pv all (q::r)=if rgt q=true∧prevOk pv q=true∧q∉all then addL (some q) (all++[q]) r else none:=rfl
theorem addL_eq:∀ (l:List Px) (pv:Option Px) (all:List Px),addL pv all l=if risL pv l=true then freshL all l else none
 | [],pv,all=>rfl
 | q::r,pv,all=>by
  rw [addL_cons,risL_cons,freshL_cons]
  cases h1:rgt q with
  | false=>rw [if_neg (fun h=>by cases h.1),Bool.false_and,if_neg Bool.false_ne_true]
  | true =>
   cases h2:prevOk pv q with
   | false=>rw [if_neg (fun h=>by cases h.2.1),Bool.false_and,Bool.and_false,if_neg Bool.false_ne_true]
   | true =>
    rw [Bool.true_and,Bool.true_and]
    by_cases h3:q∈all
    ·rw [if_neg (fun h=>h.2.2 h3),if_pos h3];split<;>rfl
    ·rw [if_pos ⟨rfl,rfl,h3⟩,if_neg h3,addL_eq r]
theorem addL_some:∀ (l:List Px) (pv:Option Px) (all a:List Px),addL pv all l=some a→a=all++l∧(∀ q∈l,rgt q=true)∧(all.Nodup→a.Nodup)
 | [],pv,all,a,h=>by cases h;exact ⟨by simp,fun q hq=>(by cases hq),id⟩
 | q::r,pv,all,a,h=>by
  rw [addL_cons] at h
  split at h
  ·next hc =>
   obtain ⟨h1,h2,h3⟩:=addL_some r (some q) (all++[q]) a h
   refine ⟨by rw [h1];simp,fun x hx=>?_,fun hn=>h3 ?_⟩
   ·rcases List.mem_cons.1 hx with rfl | hx
    ·exact hc.1
    ·exact h2 x hx
   ·rw [List.nodup_append]
    refine ⟨hn,by simp,fun x hx y hy=>?_⟩
    rw [List.mem_singleton.1 hy]
    exact fun e=>hc.2.2 (e▸hx)
  ·cases h
def pvOf(l:List Px)(i:Nat):Option Px:=if i=0 then none else l[i-1]?
theorem pvOf_zero(l:List Px):pvOf l 0=none:=rfl
theorem pvOf_succ(l:List Px)(i:Nat)(h:i<l.length):pvOf l (i+1)=some l[i]:=by
 unfold pvOf
 rw [if_neg (by omega),Nat.add_sub_cancel,List.getElem?_eq_getElem h]
theorem less_both{p q:Px}(hp:rgt p=true)(hq:rgt q=true)(op:ok_api_Prefix p)(oq:ok_api_Prefix q):cidr_Less p q=some (lessP p q)∧crawlwayref11_Less p q=some (lessP p q) :=
 ⟨cless_key p q,IsPf.less ((right_at p op).2.2 hp) ((right_at q oq).2.2 hq)⟩
theorem rising_loop(l:List Px)(hok:∀ x∈l,ok_api_Prefix x)(hn:l.length≤1000):∀ (k i:Nat),i+k=l.length→(∀ p,pvOf l i=some p→rgt p=true) →
  view_rising.l0 l (i:Int)=some (if risL (pvOf l i) (l.drop i)=true then .nx () else .ret false)
 | 0,i,h,_=>by
  rw [view_rising.l0.eq_def,decide_eq_false (by omega),if_neg Bool.false_ne_true,List.drop_eq_nil_of_le (by omega)];rfl
 | k+1,i,h,hp=>by
  have hi:i<l.length:=by omega
  have oi:=hok l[i] (List.getElem_mem hi)
  rw [view_rising.l0.eq_def,decide_eq_true (by omega),if_pos rfl,if_pos (by omega),lget_at hi,(right_at _ oi).1,bindM_some,wr1 (by omega),List.drop_eq_getElem_cons hi,risL_cons]
  cases hr:rgt l[i] with
  | false=>rw [if_pos (by decide),Bool.false_and,if_neg Bool.false_ne_true]
  | true =>
   have ih:=rising_loop l hok hn k (i+1) (by omega) (fun p e=>by rw [pvOf_succ l i hi] at e;cases e;exact hr)
   rw [pvOf_succ l i hi] at ih
   rw [if_neg (by decide),Bool.true_and]
   by_cases h0:i=0
   ·have hpv:pvOf l i=none:=by unfold pvOf;rw [if_pos h0]
    rw [decide_eq_false (by omega),if_neg Bool.false_ne_true,hpv,ih]
    show _=some (if (true&&risL (some l[i]) (List.drop (i+1) l))=true then _ else _)
    rw [Bool.true_and]
   ·have hi1:i-1<l.length:=by omega
    have hpv:pvOf l i=some l[i-1]:=by unfold pvOf;rw [if_neg h0,List.getElem?_eq_getElem hi1]
    have hless:=(less_both (hp _ hpv) hr (hok _ (List.getElem_mem hi1)) oi).1
    rw [decide_eq_true (by omega),if_pos rfl,wrm (by omega) (by omega),if_pos (by omega),lget_at hi1,hless,bindM_some,hpv]
    show _=some (if (lessP l[i-1] l[i]&&risL (some l[i]) (List.drop (i+1) l))=true then _ else _)
    cases lessP l[i-1] l[i] with
    | false=>rw [if_pos (by decide),Bool.false_and,if_neg Bool.false_ne_true]
    | true=>rw [if_neg (by decide),Bool.true_and,ih]
theorem rising_code(l:List Px)(hok:∀ x∈l,ok_api_Prefix x)(hn:l.length≤1000):view_rising l=some (risL none l):=by
 unfold view_rising
 have:=rising_loop l hok hn l.length 0 (by omega) (fun p e=>by cases e)
 rw [show ((0:Nat):Int)=0 from rfl,List.drop_zero,pvOf_zero] at this
 rw [this,bindM_some]
 cases risL none l<;>rfl
def shB(n:Int):Bool:=decide (n≥0)&&decide (n≤65535)
theorem short_code(n:Int):view_short n=some (shB n)∧crawlwayref34_from n=some (shB n):=by
 unfold view_short crawlwayref34_from shB
 cases decide (n≥0)<;>exact ⟨rfl,rfl⟩
abbrev zEnd:S_api_Endpoint:=({ f_A:=({ f_V:=(0:Int),f_B:=(Vector.replicate 16 (0:Int):(Vector Int 16)) }:S_api_Addr),f_Port:=(0:Int) }:S_api_Endpoint)
abbrev zKey:Vector Int 32:=(Vector.replicate 32 (0:Int):(Vector Int 32))
def rE(e:S_api_Endpoint):Bool:=(hostport_Right e).getD false
theorem rE_code(e:S_api_Endpoint)(h:ok_api_Endpoint e):hostport_Right e=some (rE e)∧crawlwayref12_Right e=some (rE e):=by
 obtain ⟨V,l,n,rfl,hl,_⟩:=Host.exists_mkE e h
 unfold rE
 rw [Host.right_code12 hl,Host.right_ref12 hl];exact ⟨rfl,rfl⟩
def endOk(e:S_api_Endpoint):Bool:=decide (e=zEnd)||rE e
def ctlT:Option (List Px)→Ctl Bool (List (Px×Bool))
 | none=>.ret false
 | some a=>.nx (tm a)
def ctlL:Option (List Px)→Ctl Bool (List Px)
 | none=>.ret false
 | some a=>.nx a
theorem owned_l1(c:S_api_Conf)(i10:Int)(l:List Px)(hl:(lget c.f_Peers i10).f_Allowed=l)(hn:l.length≤1000):∀ (k j:Nat) (all:List Px),j+k=l.length→all.length≤5000+j→view_Right.l1 c i10 (j:Int) (tm all)=some (ctlT (freshL all (l.drop j)))
 | 0,j,all,h,ha=>by
  rw [view_Right.l1.eq_def,hl,decide_eq_false (by omega),if_neg Bool.false_ne_true,List.drop_eq_nil_of_le (by omega)];rfl
 | k+1,j,all,h,ha=>by
  have hj:j<l.length:=by omega
  rw [view_Right.l1.eq_def,hl,decide_eq_true (by omega),if_pos rfl,if_pos (by omega),lget_at hj,wr1 (by omega),List.drop_eq_getElem_cons hj,freshL_cons]
  by_cases hm:l[j]∈all
  ·rw [mget_yes hm,if_pos rfl,if_pos hm];rfl
  ·rw [mget_no hm,if_neg Bool.false_ne_true,if_neg hm,mput_tm _ _ hm]
   exact owned_l1 c i10 l hl hn k (j+1) (all++[l[j]]) (by omega) (by rw [List.length_append,List.length_singleton];omega)
theorem dup_l3(c:S_api_Conf)(i10:Int)(l:List Px)(hl:(lget c.f_Peers i10).f_Allowed=l)(all:List Px)(ha:all.length≤9000)(j:Nat)(hj:j<l.length):∀ (k m:Nat),m+k=all.length→crawlwayref34_Right.l3 c i10 all (j:Int) (m:Int)=some (if l[j]∈all.drop m then .ret false else .nx ())
 | 0,m,h=>by
  rw [crawlwayref34_Right.l3.eq_def,decide_eq_false (by omega),if_neg Bool.false_ne_true,List.drop_eq_nil_of_le (by omega),if_neg (by simp)]
 | k+1,m,h=>by
  have hm:m<all.length:=by omega
  have ih:=dup_l3 c i10 l hl all ha j hj k (m+1) (by omega)
  rw [crawlwayref34_Right.l3.eq_def,decide_eq_true (by omega),if_pos rfl,if_pos (by omega),lget_at hm,hl,lget_at hj,wr1 (by omega),List.drop_eq_getElem_cons hm]
  by_cases he:all[m]=l[j]
  ·rw [decide_eq_true he,if_pos rfl,if_pos (by rw [he];exact List.mem_cons_self ..)]
  ·have hmem:l[j]∈all[m]::all.drop (m+1)↔l[j]∈all.drop (m+1):=by
    rw [List.mem_cons]
    exact ⟨fun h=>h.elim (fun e=>absurd e.symm he) id,.inr⟩
   rw [decide_eq_false he,if_neg Bool.false_ne_true,ih]
   by_cases h2:l[j]∈all.drop (m+1)
   ·rw [if_pos h2,if_pos (hmem.2 h2)]
   ·rw [if_neg h2,if_neg (mt hmem.1 h2)]
theorem key_l1(c:S_api_Conf)(i:Nat)(hi:i<c.f_Peers.length)(hn:c.f_Peers.length≤1000):∀ (k m:Nat),m+k=i→crawlwayref34_Right.l1 c (i:Int) (m:Int)=some (if ((c.f_Peers.take i).drop m).any (fun p=>decide (p.f_Key=c.f_Peers[i].f_Key))=true then .ret false else .nx ())
 | 0,m,h=>by
  rw [crawlwayref34_Right.l1.eq_def,decide_eq_false (by omega),if_neg Bool.false_ne_true,List.drop_eq_nil_of_le (by rw [List.length_take];omega)];rfl
 | k+1,m,h=>by
  have hm:m<(c.f_Peers.take i).length:=by rw [List.length_take];omega
  have hm2:m<c.f_Peers.length:=by omega
  have ih:=key_l1 c i hi hn k (m+1) (by omega)
  rw [crawlwayref34_Right.l1.eq_def,decide_eq_true (by omega),if_pos rfl,if_pos (by omega),lget_at hm2,lget_at hi,wr1 (by omega),List.drop_eq_getElem_cons hm,List.any_cons,List.getElem_take]
  by_cases he:c.f_Peers[m].f_Key=c.f_Peers[i].f_Key
  ·rw [decide_eq_true he,if_pos rfl,Bool.true_or,if_pos rfl]
  ·rw [decide_eq_false he,if_neg Bool.false_ne_true,ih,Bool.false_or]
theorem add_l2(c:S_api_Conf)(i10:Int)(l:List Px)(hl:(lget c.f_Peers i10).f_Allowed=l)(hok:∀ x∈l,ok_api_Prefix x)(hn:l.length≤1000):∀ (k j:Nat) (all:List Px),j+k=l.length→all.length≤5000+j→(∀ p,pvOf l j=some p→rgt p=true) →
  crawlwayref34_Right.l2 c i10 all (j:Int)=some (ctlL (addL (pvOf l j) all (l.drop j)))
 | 0,j,all,h,ha,_=>by
  rw [crawlwayref34_Right.l2.eq_def,hl,decide_eq_false (by omega),if_neg Bool.false_ne_true,List.drop_eq_nil_of_le (by omega)];rfl
 | k+1,j,all,h,ha,hp=>by
  have hj:j<l.length:=by omega
  have oj:=hok l[j] (List.getElem_mem hj)
  rw [crawlwayref34_Right.l2.eq_def,hl,decide_eq_true (by omega),if_pos rfl,if_pos (by omega),lget_at hj,(right_at _ oj).2.1,bindM_some,wr1 (by omega),List.drop_eq_getElem_cons hj,addL_cons]
  cases hr:rgt l[j] with
  | false =>
   rw [if_pos (by decide),bindM_some]
   dsimp only
   rw [if_neg (fun h=>by cases h.1)];rfl
  | true =>
   have ih:=add_l2 c i10 l hl hok hn k (j+1) (all++[l[j]]) (by omega) (by rw [List.length_append,List.length_singleton];omega) (fun p e=>by rw [pvOf_succ l j hj] at e;cases e;exact hr)
   rw [pvOf_succ l j hj] at ih
   rw [if_neg (by decide)]
   by_cases h0:j=0
   ·have hpv:pvOf l j=none:=by unfold pvOf;rw [if_pos h0]
    have hd:=dup_l3 c i10 l hl all (by omega) j hj all.length 0 (by omega)
    rw [show ((0:Nat):Int)=0 from rfl,List.drop_zero] at hd
    rw [decide_eq_false (by omega),if_neg Bool.false_ne_true,bindM_some,hpv]
    dsimp only
    rw [hd,bindM_some,if_pos (show (all.length+1)*32≤140737488355328 by omega)]
    by_cases hm:l[j]∈all
    ·rw [if_pos hm,if_neg (fun h=>h.2.2 hm)];rfl
    ·rw [if_neg hm,if_pos ⟨rfl,rfl,hm⟩]
     exact ih
   ·have hj1:j-1<l.length:=by omega
    have hpv:pvOf l j=some l[j-1]:=by unfold pvOf;rw [if_neg h0,List.getElem?_eq_getElem hj1]
    have hless:=(less_both (hp _ hpv) hr (hok _ (List.getElem_mem hj1)) oj).2
    have hd:=dup_l3 c i10 l hl all (by omega) j hj all.length 0 (by omega)
    rw [show ((0:Nat):Int)=0 from rfl,List.drop_zero] at hd
    rw [decide_eq_true (by omega),if_pos rfl,wrm (by omega) (by omega),if_pos (by omega),lget_at hj1,hless,bindM_some,hpv]
    cases hlt:lessP l[j-1] l[j] with
    | false =>
     rw [if_pos (by decide),bindM_some]
     dsimp only
     rw [if_neg (fun h=>by have h2:lessP l[j-1] l[j]=true:=h.2.1;rw [hlt] at h2;cases h2)];rfl
    | true =>
     rw [if_neg (by decide),bindM_some]
     dsimp only
     rw [hd,bindM_some,if_pos (show (all.length+1)*32≤140737488355328 by omega)]
     by_cases hm:l[j]∈all
     ·rw [if_pos hm,if_neg (fun h=>h.2.2 hm)];rfl
     ·rw [if_neg hm,if_pos ⟨rfl,hlt,hm⟩]
      exact ih
def goR:List (Vector Int 32)→List Px→List S_api_Peer→Option (List Px)
 | _,all,[]=>some all
 | ks,all,p::r=>if p.f_Key∉ks∧shB p.f_Keep=true∧endOk p.f_End=true then (addL none all p.f_Allowed).bind fun a=>goR (ks++[p.f_Key]) a r else none
theorem goR_cons(ks:List (Vector Int 32))(all:List Px)(p:S_api_Peer)(r:List S_api_Peer):goR ks all (p::r)=if p.f_Key∉ks∧shB p.f_Keep=true∧endOk p.f_End=true then (addL none all p.f_Allowed).bind fun a=>goR (ks++[p.f_Key]) a r else none:=rfl
def ksOf(c:S_api_Conf)(i:Nat):List (Vector Int 32):=zKey::(c.f_Peers.take i).map S_api_Peer.f_Key
theorem ksOf_succ(c:S_api_Conf)(i:Nat)(h:i<c.f_Peers.length):ksOf c (i+1)=ksOf c i++[c.f_Peers[i].f_Key]:=by
 unfold ksOf
 rw [List.take_succ_eq_append_getElem h,List.map_append];rfl
structure Mod (c:S_api_Conf):Prop where
 ok:∀ p∈c.f_Peers,ok_api_Peer p
 len:c.f_Peers.length≤20
 each:∀ p∈c.f_Peers,p.f_Allowed.length≤80
theorem okAllowed{p:S_api_Peer}(h:ok_api_Peer p):∀ x∈p.f_Allowed,ok_api_Prefix x:=h.2.2.2.2.2.2
theorem view_loop{c:S_api_Conf}(hc:Mod c):∀ (k i:Nat) (all:List Px),i+k=c.f_Peers.length→all.length≤80*i →
  view_Right.l0 c (i:Int) (tm all) (tm (ksOf c i))=some (ctlT (goR (ksOf c i) all (c.f_Peers.drop i)))
 | 0,i,all,h,_=>by
  rw [view_Right.l0.eq_def,decide_eq_false (by omega),if_neg Bool.false_ne_true,List.drop_eq_nil_of_le (by omega)];rfl
 | k+1,i,all,h,ha=>by
  have hlen:=hc.len
  have hi:i<c.f_Peers.length:=by omega
  have hm:=List.getElem_mem hi
  have op:=hc.ok _ hm
  have h80:=hc.each _ hm
  have hg:=lget_at hi
  have hon:=okAllowed op
  have hris:=rising_code c.f_Peers[i].f_Allowed hon (by omega)
  have hright:=(rE_code c.f_Peers[i].f_End op.2.2.1).1
  have hnone:hostport_None c.f_Peers[i].f_End=some (decide (c.f_Peers[i].f_End=zEnd)):=rfl
  rw [view_Right.l0.eq_def,decide_eq_true (by omega),if_pos rfl,if_pos (by omega),hg,(short_code _).1,hris,hnone,hright,wr1 (by omega),List.drop_eq_getElem_cons hi,goR_cons]
  by_cases hk:c.f_Peers[i].f_Key∈ksOf c i
  ·rw [mget_yes hk,if_pos rfl,bindM_some,if_neg (fun h=>h.1 hk)];rfl
  ·have hks:=mput_tm _ _ hk
   rw [mget_no hk,if_neg Bool.false_ne_true,bindM_some,hks,←ksOf_succ c i hi]
   cases hs:shB c.f_Peers[i].f_Keep with
   | false=>rw [if_pos (by decide),bindM_some,if_neg (fun h=>by cases h.2.1)];rfl
   | true =>
    rw [if_neg (by decide),bindM_some,addL_eq]
    cases hr:risL none c.f_Peers[i].f_Allowed with
    | false =>
     rw [if_pos (by decide),bindM_some,if_neg Bool.false_ne_true]
     dsimp only
     split<;>rfl
    | true =>
     rw [if_neg (by decide),bindM_some,if_pos rfl]
     dsimp only
     have fin:∀ o:Ctl Bool (List (Px×Bool)),o=ctlT (freshL all c.f_Peers[i].f_Allowed)→(match o with | .ret r'=>some (.ret r') | .nx sq=>view_Right.l0 c ((i+1:Nat):Int) sq (tm (ksOf c (i+1))))=some (ctlT ((freshL all c.f_Peers[i].f_Allowed).bind fun a=>goR (ksOf c (i+1)) a (c.f_Peers.drop (i+1)))):=by
      intro o ho
      rw [ho]
      cases hf:freshL all c.f_Peers[i].f_Allowed with
      | none=>rfl
      | some a =>
       have hal:addL none all c.f_Peers[i].f_Allowed=some a:=by rw [addL_eq,hr,if_pos rfl,hf]
       have hlen2:a.length≤80*(i+1):=by rw [(addL_some _ _ _ _ hal).1,List.length_append];omega
       exact view_loop hc k (i+1) a (by omega) hlen2
     have ho_l1:=owned_l1 c (i:Int) c.f_Peers[i].f_Allowed (by rw [hg]) (by omega) c.f_Peers[i].f_Allowed.length 0 all (by omega) (by omega)
     rw [show ((0:Nat):Int)=0 from rfl,List.drop_zero] at ho_l1
     by_cases he:c.f_Peers[i].f_End=zEnd
     ·have hek:endOk c.f_Peers[i].f_End=true:=by unfold endOk;rw [decide_eq_true he];rfl
      rw [bindM_some,decide_eq_true he,if_neg (by decide),bindM_some]
      dsimp only
      rw [if_pos ⟨hk,rfl,hek⟩,ho_l1,bindM_some]
      exact fin _ rfl
     ·rw [bindM_some,decide_eq_false he,if_pos (by decide),bindM_some]
      cases hre:rE c.f_Peers[i].f_End with
      | false =>
       have hek:endOk c.f_Peers[i].f_End=false:=by unfold endOk;rw [decide_eq_false he,hre];rfl
       rw [if_pos (by decide),bindM_some,if_neg (fun h=>by rw [hek] at h;cases h.2.2)];rfl
      | true =>
       have hek:endOk c.f_Peers[i].f_End=true:=by unfold endOk;rw [hre,Bool.or_true]
       rw [if_neg (by decide),bindM_some]
       dsimp only
       rw [if_pos ⟨hk,rfl,hek⟩,ho_l1,bindM_some]
       exact fin _ rfl
theorem ref_loop{c:S_api_Conf}(hc:Mod c):∀ (k i:Nat) (all:List Px),i+k=c.f_Peers.length→all.length≤80*i →
  crawlwayref34_Right.l0 c all (i:Int)=some (ctlL (goR (ksOf c i) all (c.f_Peers.drop i)))
 | 0,i,all,h,_=>by
  rw [crawlwayref34_Right.l0.eq_def,decide_eq_false (by omega),if_neg Bool.false_ne_true,List.drop_eq_nil_of_le (by omega)];rfl
 | k+1,i,all,h,ha=>by
  have hlen:=hc.len
  have hi:i<c.f_Peers.length:=by omega
  have hm:=List.getElem_mem hi
  have op:=hc.ok _ hm
  have h80:=hc.each _ hm
  have hg:=lget_at hi
  have hon:=okAllowed op
  have hright:=(rE_code c.f_Peers[i].f_End op.2.2.1).2
  have hkey:c.f_Peers[i].f_Key∈ksOf c i↔c.f_Peers[i].f_Key=zKey∨(c.f_Peers.take i).any (fun p=>decide (p.f_Key=c.f_Peers[i].f_Key))=true:=by
   unfold ksOf
   rw [List.mem_cons,List.any_eq_true]
   constructor
   ·rintro (h | h)
    ·exact .inl h
    ·obtain ⟨p,hp,e⟩:=List.mem_map.1 h
     exact .inr ⟨p,hp,decide_eq_true e⟩
   ·rintro (h | ⟨p,hp,e⟩)
    ·exact .inl h
    ·exact .inr (List.mem_map.2 ⟨p,hp,of_decide_eq_true e⟩)
  have hk_l1:=key_l1 c i hi (by omega) i 0 (by omega)
  have ha_l2:=add_l2 c (i:Int) c.f_Peers[i].f_Allowed (by rw [hg]) hon (by omega) c.f_Peers[i].f_Allowed.length 0 all (by omega) (by omega) (fun p e=>by cases e)
  rw [show ((0:Nat):Int)=0 from rfl,List.drop_zero] at hk_l1
  rw [show ((0:Nat):Int)=0 from rfl,List.drop_zero,pvOf_zero] at ha_l2
  rw [crawlwayref34_Right.l0.eq_def,decide_eq_true (by omega),if_pos rfl,if_pos (by omega),hg,(short_code _).2,hright,wr1 (by omega),List.drop_eq_getElem_cons hi,goR_cons]
  by_cases hz:c.f_Peers[i].f_Key=zKey
  ·rw [decide_eq_true hz,if_pos rfl,bindM_some,if_neg (fun h=>h.1 (hkey.2 (.inl hz)))];rfl
  ·rw [decide_eq_false hz,if_neg Bool.false_ne_true,bindM_some]
   cases hs:shB c.f_Peers[i].f_Keep with
   | false=>rw [if_pos (by decide),bindM_some,if_neg (fun h=>by cases h.2.1)];rfl
   | true =>
    rw [if_neg (by decide)]
    have fin:∀ o:Ctl Bool (List Px),o=ctlL (addL none all c.f_Peers[i].f_Allowed)→(match o with | .ret r'=>some (.ret r') | .nx sq=>crawlwayref34_Right.l0 c sq ((i+1:Nat):Int))=some (ctlL ((addL none all c.f_Peers[i].f_Allowed).bind fun a=>goR (ksOf c i++[c.f_Peers[i].f_Key]) a (c.f_Peers.drop (i+1)))):=by
     intro o ho
     rw [ho]
     cases hf:addL none all c.f_Peers[i].f_Allowed with
     | none=>rfl
     | some a =>
      have hlen2:a.length≤80*(i+1):=by rw [(addL_some _ _ _ _ hf).1,List.length_append];omega
      have:=ref_loop hc k (i+1) a (by omega) hlen2
      rw [ksOf_succ c i hi] at this
      exact this
    have tail:endOk c.f_Peers[i].f_End=true→(crawlwayref34_Right.l1 c (i:Int) 0>>=fun q36=>match q36 with | .ret r'=>some (.ret r') | .nx sq36=>(crawlwayref34_Right.l2 c (i:Int) all 0>>=fun q52=>match q52 with | .ret r'=>some (.ret r') | .nx sq52=>(crawlwayref34_Right.l0 c sq52 ((i+1:Nat):Int))))=some (ctlL (if c.f_Peers[i].f_Key∉ksOf c i∧true=true∧endOk c.f_Peers[i].f_End=true then (addL none all c.f_Peers[i].f_Allowed).bind fun a=>goR (ksOf c i++[c.f_Peers[i].f_Key]) a (c.f_Peers.drop (i+1)) else none)):=by
     intro hek
     rw [hk_l1,bindM_some]
     cases hany:(c.f_Peers.take i).any (fun p=>decide (p.f_Key=c.f_Peers[i].f_Key)) with
     | true=>rw [if_pos rfl,if_neg (fun h=>h.1 (hkey.2 (.inr hany)))];rfl
     | false =>
      have hk:c.f_Peers[i].f_Key∉ksOf c i:=fun h=>by
       rcases hkey.1 h with h | h
       ·exact hz h
       ·rw [hany] at h;cases h
      rw [if_neg Bool.false_ne_true,if_pos ⟨hk,rfl,hek⟩]
      dsimp only
      rw [ha_l2,bindM_some]
      exact fin _ rfl
    by_cases he:c.f_Peers[i].f_End=zEnd
    ·have hek:endOk c.f_Peers[i].f_End=true:=by unfold endOk;rw [decide_eq_true he];rfl
     rw [decide_eq_true he,if_neg (by decide),bindM_some]
     exact tail hek
    ·rw [decide_eq_false he,if_pos (by decide),bindM_some]
     cases hre:rE c.f_Peers[i].f_End with
     | false =>
      have hek:endOk c.f_Peers[i].f_End=false:=by unfold endOk;rw [decide_eq_false he,hre];rfl
      rw [if_pos (by decide),bindM_some,if_neg (fun h=>by rw [hek] at h;cases h.2.2)];rfl
     | true =>
      have hek:endOk c.f_Peers[i].f_End=true:=by unfold endOk;rw [hre,Bool.or_true]
      rw [if_neg (by decide),bindM_some]
      exact tail hek
def rightC(c:S_api_Conf):Bool:=shB c.f_Port&&(decide (c.f_Peers.length≤16)&&(match goR [zKey] [] c.f_Peers with | none=>false | some a=>decide (a.length≤64)))
theorem right_code{c:S_api_Conf}(hc:Mod c):view_Right c=some (rightC c)∧crawlwayref34_Right c=some (rightC c):=by
 have h1:=view_loop hc c.f_Peers.length 0 [] (by omega) (by simp)
 have h2:=ref_loop hc c.f_Peers.length 0 [] (by omega) (by simp)
 have hks:ksOf c 0=[zKey]:=by unfold ksOf;simp
 rw [show ((0:Nat):Int)=0 from rfl,List.drop_zero,hks] at h1 h2
 have h1:view_Right.l0 c 0 ([]:List (S_api_Prefix×Bool)) (mput ([]:List ((Vector Int 32)×Bool)) (Vector.replicate 32 (0:Int):(Vector Int 32)) true)=_:=h1
 unfold view_Right crawlwayref34_Right rightC
 rw [(short_code _).1,(short_code _).2,bindM_some]
 cases shB c.f_Port with
 | false=>exact ⟨rfl,rfl⟩
 | true =>
  have hnt:¬ (!true)=true:=by decide
  rw [if_neg hnt,Bool.true_and]
  by_cases h16:c.f_Peers.length≤16
  ·rw [decide_eq_false (show ¬ (c.f_Peers.length:Int)>16 by omega),if_neg Bool.false_ne_true,decide_eq_true h16,Bool.true_and,bindM_some,bindM_some]
   dsimp only
   rw [h1,h2,bindM_some,bindM_some]
   cases goR [zKey] [] c.f_Peers with
   | none=>exact ⟨rfl,rfl⟩
   | some a =>
    have e:decide ((a.length:Int)≤64)=decide (a.length≤64):=decide_eq_decide.2 (by omega)
    refine ⟨?_,?_⟩
    ·show some (decide (((tm a).length:Int)≤64))=_
     rw [tm_len,e]
    ·show some (decide ((a.length:Int)≤64))=_
     rw [e]
  ·rw [decide_eq_true (show (c.f_Peers.length:Int)>16 by omega),if_pos rfl,decide_eq_false h16];exact ⟨rfl,rfl⟩
def mkEn(i:Nat)(q:Px):S_api_Entry:={ f_P:=q,f_Owner:=(i:Int) }
def ents:Nat→List S_api_Peer→List S_api_Entry
 | _,[]=>[]
 | i,p::r=>p.f_Allowed.map (mkEn i)++ents (i+1) r
theorem ents_cons(i:Nat)(p:S_api_Peer)(r:List S_api_Peer):ents i (p::r)=p.f_Allowed.map (mkEn i)++ents (i+1) r:=rfl
theorem ents_P:∀ (l:List S_api_Peer) (i:Nat),(ents i l).map S_api_Entry.f_P=l.flatMap S_api_Peer.f_Allowed
 | [],_=>rfl
 | p::r,i=>by
  rw [ents_cons,List.map_append,ents_P r,List.map_map,List.flatMap_cons]
  congr 1
  exact List.map_id _
theorem goR_some:∀ (l:List S_api_Peer) (ks:List (Vector Int 32)) (all a:List Px),goR ks all l=some a→a=all++l.flatMap S_api_Peer.f_Allowed∧(∀ q∈l.flatMap S_api_Peer.f_Allowed,rgt q=true)∧(all.Nodup→a.Nodup)
 | [],ks,all,a,h=>by cases h;exact ⟨by simp,fun q hq=>(by cases hq),id⟩
 | p::r,ks,all,a,h=>by
  rw [goR_cons] at h
  split at h
  ·cases hf:addL none all p.f_Allowed with
   | none=>rw [hf] at h;cases h
   | some b =>
    rw [hf] at h
    obtain ⟨h1,h2,h3⟩:=addL_some _ _ _ _ hf
    obtain ⟨k1,k2,k3⟩:=goR_some r _ b a h
    refine ⟨by rw [k1,h1,List.flatMap_cons,List.append_assoc],fun q hq=>?_,fun hn=>k3 (h3 hn)⟩
    rw [List.flatMap_cons] at hq
    rcases List.mem_append.1 hq with hq | hq
    ·exact h2 q hq
    ·exact k2 q hq
  ·cases h
theorem ents_ok{c:S_api_Conf}(hc:Mod c):∀ e∈ents 0 c.f_Peers,ok_api_Prefix e.f_P:=fun e he=>by
 have:e.f_P∈c.f_Peers.flatMap S_api_Peer.f_Allowed:=by rw [←ents_P _ 0];exact List.mem_map.2 ⟨e,he,rfl⟩
 obtain ⟨p,hp,hq⟩:=List.mem_flatMap.1 this
 exact okAllowed (hc.ok p hp) _ hq
theorem right_facts{c:S_api_Conf}(hc:Mod c)(h:rightC c=true):(∀ e∈ents 0 c.f_Peers,rgt e.f_P=true)∧((ents 0 c.f_Peers).map S_api_Entry.f_P).Nodup∧(ents 0 c.f_Peers).length≤64:=by
 unfold rightC at h
 rw [Bool.and_eq_true,Bool.and_eq_true] at h
 obtain ⟨_,_,h3⟩:=h
 cases hg:goR [zKey] [] c.f_Peers with
 | none=>rw [hg] at h3;cases h3
 | some a =>
  rw [hg] at h3
  have h3:=of_decide_eq_true h3
  obtain ⟨k1,k2,k3⟩:=goR_some _ _ _ _ hg
  rw [List.nil_append,←ents_P _ 0] at k1
  rw [←ents_P _ 0] at k2
  refine ⟨fun e he=>k2 _ (List.mem_map.2 ⟨e,he,rfl⟩),by rw [←k1];exact k3 List.nodup_nil,?_⟩
  have:=congrArg List.length k1
  rw [List.length_map] at this
  omega
end Go.Proofs.YtahlbjmafceoeaaGreatDoor.Lint
set_option maxRecDepth 20000
namespace Go.Proofs.YtahlbjmafceoeaaGreatDoor.Lint
open E Go.RowKit Adr Cid Agg
theorem ent_l1(c:S_api_Conf)(i:Nat)(l:List Px)(hl:(lget c.f_Peers (i:Int)).f_Allowed=l)(hi:i<c.f_Peers.length)(hn:l.length≤1000):∀ (k j:Nat) (out:List S_api_Entry),j+k=l.length→out.length≤5000+j →
  lint_entries.l1 c (i:Int) out (j:Int)=some (out++(l.drop j).map (mkEn i))∧crawlwayref60_Entries.l1 c (i:Int) out (j:Int)=some (out++(l.drop j).map (mkEn i))
 | 0,j,out,h,ho=>by
  rw [lint_entries.l1.eq_def,crawlwayref60_Entries.l1.eq_def,if_pos (show (0:Int)≤(i:Int)∧(i:Int)<(c.f_Peers.length:Int) by omega),hl,decide_eq_false (by omega),if_neg Bool.false_ne_true,if_neg Bool.false_ne_true,List.drop_eq_nil_of_le (by omega)]
  simp
 | k+1,j,out,h,ho=>by
  have hj:j<l.length:=by omega
  obtain ⟨i1,i2⟩:=ent_l1 c i l hl hi hn k (j+1) (out++[mkEn i l[j]]) (by omega) (by rw [List.length_append,List.length_singleton];omega)
  have e:out++(l.drop j).map (mkEn i)=(out++[mkEn i l[j]])++(l.drop (j+1)).map (mkEn i):=by rw [List.drop_eq_getElem_cons hj,List.map_cons,List.append_assoc];rfl
  rw [e]
  constructor
  ·rw [lint_entries.l1.eq_def,hl,decide_eq_true (by omega),if_pos rfl,if_pos (by omega),lget_at hj,wr1 (by omega),if_pos (by omega)]
   exact i1
  ·rw [crawlwayref60_Entries.l1.eq_def,if_pos (show (0:Int)≤(i:Int)∧(i:Int)<(c.f_Peers.length:Int) by omega),hl,decide_eq_true (by omega),if_pos rfl,if_pos (by omega),if_pos (by omega),lget_at hj,wr1 (by omega),if_pos (by omega)]
   exact i2
theorem ent_l0{c:S_api_Conf}(hc:Mod c):∀ (k i:Nat) (out:List S_api_Entry),i+k=c.f_Peers.length→out.length≤80*i →
  lint_entries.l0 c out (i:Int)=some (out++ents i (c.f_Peers.drop i))∧crawlwayref60_Entries.l0 c out (i:Int)=some (out++ents i (c.f_Peers.drop i))
 | 0,i,out,h,ho=>by
  rw [lint_entries.l0.eq_def,crawlwayref60_Entries.l0.eq_def,decide_eq_false (by omega),if_neg Bool.false_ne_true,if_neg Bool.false_ne_true,List.drop_eq_nil_of_le (by omega)]
  show some out=some (out++[])∧some out=some (out++[])
  rw [List.append_nil];exact ⟨rfl,rfl⟩
 | k+1,i,out,h,ho=>by
  have hlen:=hc.len
  have hi:i<c.f_Peers.length:=by omega
  have h80:=hc.each _ (List.getElem_mem hi)
  have hg:=lget_at hi
  obtain ⟨j1,j2⟩:=ent_l1 c i c.f_Peers[i].f_Allowed (by rw [hg]) hi (by omega) c.f_Peers[i].f_Allowed.length 0 out (by omega) (by omega)
  rw [show ((0:Nat):Int)=0 from rfl,List.drop_zero] at j1 j2
  obtain ⟨i1,i2⟩:=ent_l0 hc k (i+1) (out++c.f_Peers[i].f_Allowed.map (mkEn i)) (by omega) (by rw [List.length_append,List.length_map];omega)
  have e:out++ents i (c.f_Peers.drop i)=(out++c.f_Peers[i].f_Allowed.map (mkEn i))++ents (i+1) (c.f_Peers.drop (i+1)):=by rw [List.drop_eq_getElem_cons hi,ents_cons];simp
  rw [e]
  constructor
  ·rw [lint_entries.l0.eq_def,decide_eq_true (by omega),if_pos rfl,if_pos (by omega),j1,bindM_some,wr1 (by omega)];exact i1
  ·rw [crawlwayref60_Entries.l0.eq_def,decide_eq_true (by omega),if_pos rfl,j2,bindM_some,wr1 (by omega)];exact i2
theorem ent_code{c:S_api_Conf}(hc:Mod c):lint_entries c=some (ents 0 c.f_Peers)∧crawlwayref60_Entries c=some (ents 0 c.f_Peers):=by
 obtain ⟨h1,h2⟩:=ent_l0 hc c.f_Peers.length 0 [] (by omega) (by simp)
 rw [show ((0:Nat):Int)=0 from rfl,List.drop_zero,List.nil_append] at h1 h2
 unfold lint_entries crawlwayref60_Entries
 rw [h1,h2];exact ⟨rfl,rfl⟩
abbrev zPx:Px:=({ f_A:=({ f_V:=(0:Int),f_B:=(Vector.replicate 16 (0:Int):(Vector Int 16)) }:S_api_Addr),f_Bits:=(0:Int) }:S_api_Prefix)
def mkO(kd i:Int)(P:Px):S_lint_Odd:={ f_Kind:=kd,f_Peer:=i,f_P:=P }
def fS(c:S_api_Conf)(E:List S_api_Entry)(out:List S_lint_Odd):S_lint_finder:={ f_c:=c,f_own:=E,f_out:=out }
def gat(f:Nat→List S_lint_Odd):Nat→Nat→List S_lint_Odd
 | _,0=>[]
 | i,k+1=>f i++gat f (i+1) k
theorem gat_succ(f:Nat→List S_lint_Odd)(i k:Nat):gat f i (k+1)=f i++gat f (i+1) k:=rfl
theorem gat_len(f:Nat→List S_lint_Odd)(hf:∀ i,(f i).length≤1):∀ (k i:Nat),(gat f i k).length≤k
 | 0,_=>Nat.le_refl _
 | k+1,i=>by rw [gat_succ,List.length_append];have:=gat_len f hf k (i+1);have:=hf i;omega
def one(kd:Int)(b:Nat→Bool)(i:Nat):List S_lint_Odd:=if b i=true then [mkO kd (i:Int) zPx] else []
theorem one_len(kd:Int)(b:Nat→Bool)(i:Nat):(one kd b i).length≤1:=by unfold one;split<;>simp
theorem step_out(out:List S_lint_Odd)(kd:Int)(b:Nat→Bool)(i k:Nat):out++gat (one kd b) i (k+1)=(if b i=true then out++[mkO kd (i:Int) zPx] else out)++gat (one kd b) (i+1) k:=by
 rw [gat_succ]
 unfold one
 split<;>simp
def idleB(c:S_api_Conf)(i:Nat):Bool:=(((lget c.f_Peers (i:Int)).f_Allowed).length:Int)==0
theorem idle_l0(c:S_api_Conf)(E:List S_api_Entry)(o0:List S_lint_Odd)(hn:c.f_Peers.length≤20):∀ (k i:Nat) (out:List S_lint_Odd),i+k=c.f_Peers.length→out.length≤5000+i →
  lint_All.l0 (fS c E o0) (i:Int) (fS c E out)=some (fS c E (out++gat (one 2 (idleB c)) i k))
 | 0,i,out,h,ho=>by
  rw [lint_All.l0.eq_def]
  show (if decide ((i:Int)<(c.f_Peers.length:Int))=true then _ else _)=some (fS c E (out++[]))
  rw [decide_eq_false (by omega),if_neg Bool.false_ne_true,List.append_nil]
 | k+1,i,out,h,ho=>by
  rw [lint_All.l0.eq_def,wr1 (by omega),step_out]
  show (if decide ((i:Int)<(c.f_Peers.length:Int))=true then (if (0:Int)≤(i:Int)∧(i:Int)<(c.f_Peers.length:Int) then (if idleB c i=true then (if (out.length+1)*48≤140737488355328 then lint_All.l0 (fS c E o0) ((i+1:Nat):Int) (fS c E (out++[mkO 2 (i:Int) zPx])) else none) else lint_All.l0 (fS c E o0) ((i+1:Nat):Int) (fS c E out)) else none) else _)=_
  rw [decide_eq_true (by omega),if_pos rfl,if_pos (by omega),if_pos (show (out.length+1)*48≤140737488355328 by omega)]
  cases idleB c i with
  | true=>rw [if_pos rfl,if_pos rfl];exact idle_l0 c E o0 hn k (i+1) _ (by omega) (by rw [List.length_append,List.length_singleton];omega)
  | false=>rw [if_neg Bool.false_ne_true,if_neg Bool.false_ne_true];exact idle_l0 c E o0 hn k (i+1) _ (by omega) (by omega)
theorem ridle_l0(c:S_api_Conf)(hn:c.f_Peers.length≤20):∀ (k i:Nat) (out:List S_lint_Odd),i+k=c.f_Peers.length→out.length≤5000+i →
  crawlwayref60_All.l0 c out (i:Int)=some (out++gat (one 2 (idleB c)) i k)
 | 0,i,out,h,ho=>by
  rw [crawlwayref60_All.l0.eq_def,decide_eq_false (by omega),if_neg Bool.false_ne_true]
  show _=some (out++[])
  rw [List.append_nil]
 | k+1,i,out,h,ho=>by
  rw [crawlwayref60_All.l0.eq_def,decide_eq_true (by omega),if_pos rfl,wr1 (by omega),step_out]
  show (if (0:Int)≤(i:Int)∧(i:Int)<(c.f_Peers.length:Int) then (if idleB c i=true then (if (out.length+1)*48≤140737488355328 then crawlwayref60_All.l0 c (out++[mkO 2 (i:Int) zPx]) ((i+1:Nat):Int) else none) else crawlwayref60_All.l0 c out ((i+1:Nat):Int)) else none)=_
  rw [if_pos (by omega),if_pos (show (out.length+1)*48≤140737488355328 by omega)]
  cases idleB c i with
  | true=>rw [if_pos rfl,if_pos rfl];exact ridle_l0 c hn k (i+1) _ (by omega) (by rw [List.length_append,List.length_singleton];omega)
  | false=>rw [if_neg Bool.false_ne_true,if_neg Bool.false_ne_true];exact ridle_l0 c hn k (i+1) _ (by omega) (by omega)
theorem take_lsub{α:Type}(xs:List α)(i:Nat):lsub xs 0 (i:Int)=xs.take i:=by unfold lsub;rw [Int.toNat_natCast];rfl
theorem keys_zero(v:Vector Int 32):keys_Zero v=some (decide (v=zKey)):=rfl
theorem ref_zero_loop(v:Vector Int 32):∀ (k i:Nat),i+k=32→crawlwayref07_Zero.l0 v (i:Int)=some (if (v.toList.drop i).all (fun n=>n==0)=true then .nx () else .ret false)
 | 0,i,h=>by
  rw [crawlwayref07_Zero.l0.eq_def,decide_eq_false (by omega),if_neg Bool.false_ne_true,List.drop_eq_nil_of_le (by simp;omega)];rfl
 | k+1,i,h=>by
  have hi:i<v.toList.length:=by simp;omega
  have hg:vget v (i:Int)=v.toList[i]:=by rw [Key.vget_nat v i (by omega)];simp
  rw [crawlwayref07_Zero.l0.eq_def,decide_eq_true (by omega),if_pos rfl,if_pos (by omega),hg,wr1 (by omega),List.drop_eq_getElem_cons hi,List.all_cons]
  cases hz:(v.toList[i]==0) with
  | true =>
   have:(v.toList[i] != 0)=false:=by rw [bne,hz];rfl
   rw [this,if_neg Bool.false_ne_true,Bool.true_and]
   exact ref_zero_loop v k (i+1) (by omega)
  | false =>
   have:(v.toList[i] != 0)=true:=by rw [bne,hz];rfl
   rw [this,if_pos rfl,Bool.false_and,if_neg Bool.false_ne_true]
theorem ref_zero(v:Vector Int 32):crawlwayref07_Zero v=some (decide (v=zKey)):=by
 unfold crawlwayref07_Zero
 have h:=ref_zero_loop v 32 0 rfl
 rw [show ((0:Nat):Int)=0 from rfl,List.drop_zero] at h
 rw [h,bindM_some]
 by_cases hz:v=zKey
 ·have:v.toList.all (fun n=>n==0)=true:=by rw [hz,Vector.toList_replicate];decide
  rw [if_pos this,decide_eq_true hz]
 ·have:¬ v.toList.all (fun n=>n==0)=true:=fun ha=>hz (by
   apply Vector.toList_inj.1
   rw [Vector.toList_replicate]
   refine List.eq_replicate_iff.2 ⟨by simp,fun n hn=>?_⟩
   exact beq_iff_eq.1 (List.all_eq_true.1 ha n hn))
  rw [if_neg this,decide_eq_false hz]
def dblB(c:S_api_Conf)(i:Nat):Bool:=(c.f_Peers.take i).any (fun p=>decide (p.f_End=(lget c.f_Peers (i:Int)).f_End))&&!decide ((lget c.f_Peers (i:Int)).f_End=zEnd)
def shaB(c:S_api_Conf)(i:Nat):Bool:=(c.f_Peers.take i).any (fun p=>decide (p.f_Psk=(lget c.f_Peers (i:Int)).f_Psk))&&!decide ((lget c.f_Peers (i:Int)).f_Psk=zKey)
theorem dbl_loop(c:S_api_Conf)(E:List S_api_Entry)(out:List S_lint_Odd)(i:Nat)(hi:i<c.f_Peers.length)(hn:c.f_Peers.length≤1000):∀ (k m:Nat),m+k=i→lint_finder_double.l0 (fS c E out) (i:Int) (m:Int)=some (if (((c.f_Peers.take i).drop m).any (fun p=>decide (p.f_End=(lget c.f_Peers (i:Int)).f_End))&&!decide ((lget c.f_Peers (i:Int)).f_End=zEnd))=true then .ret true else .nx ())
 | 0,m,h=>by
  rw [lint_finder_double.l0.eq_def]
  show (if (decide ((m:Int)<((lsub c.f_Peers 0 (i:Int)).length:Int)))=true then _ else _)=_
  rw [take_lsub,decide_eq_false (by rw [List.length_take];omega),if_neg Bool.false_ne_true,List.drop_eq_nil_of_le (by rw [List.length_take];omega)];rfl
 | k+1,m,h=>by
  have hm:m<(c.f_Peers.take i).length:=by rw [List.length_take];omega
  have ih:=dbl_loop c E out i hi hn k (m+1) (by omega)
  rw [lint_finder_double.l0.eq_def]
  show (if (decide ((m:Int)<((lsub c.f_Peers 0 (i:Int)).length:Int)))=true then (if (0:Int)≤(m:Int)∧(m:Int)<((lsub c.f_Peers 0 (i:Int)).length:Int) then if (decide ((lget (lsub c.f_Peers 0 (i:Int)) (m:Int)).f_End=(lget c.f_Peers (i:Int)).f_End))=true then (some (decide ((lget c.f_Peers (i:Int)).f_End=zEnd))>>=fun t28=>if (!t28)=true then (some (.ret true)) else (lint_finder_double.l0 (fS c E out) (i:Int) (wr .i64 ((m:Int)+1)))) else (lint_finder_double.l0 (fS c E out) (i:Int) (wr .i64 ((m:Int)+1))) else none) else (some (.nx ())))=_
  rw [take_lsub,decide_eq_true (by omega),if_pos rfl,if_pos (by omega),lget_at hm,wr1 (by omega),bindM_some,List.drop_eq_getElem_cons hm,List.any_cons,ih]
  cases decide ((List.take i c.f_Peers)[m].f_End=(lget c.f_Peers (i:Int)).f_End) with
  | false=>rw [if_neg Bool.false_ne_true,Bool.false_or]
  | true =>
   rw [if_pos rfl,Bool.true_or,Bool.true_and]
   cases decide ((lget c.f_Peers (i:Int)).f_End=zEnd) with
   | true=>rw [Bool.not_true,Bool.and_false,if_neg Bool.false_ne_true,if_neg Bool.false_ne_true]
   | false=>rw [Bool.not_false,if_pos rfl,if_pos rfl]
theorem dbl_code(c:S_api_Conf)(E:List S_api_Entry)(out:List S_lint_Odd)(i:Nat)(hi:i<c.f_Peers.length)(hn:c.f_Peers.length≤1000):lint_finder_double (fS c E out) (i:Int)=some (dblB c i):=by
 have h:=dbl_loop c E out i hi hn i 0 (by omega)
 rw [show ((0:Nat):Int)=0 from rfl,List.drop_zero] at h
 unfold lint_finder_double dblB
 show (if (0:Int)≤(i:Int)∧(i:Int)<(c.f_Peers.length:Int) then if (0:Int)≤0∧(0:Int)≤(i:Int)∧(i:Int)≤(c.f_Peers.length:Int) then lint_finder_double.l0 (fS c E out) (i:Int) 0>>=_ else none else none)=_
 rw [if_pos (by omega),if_pos (by omega),h,bindM_some]
 cases ((c.f_Peers.take i).any (fun p=>decide (p.f_End=(lget c.f_Peers (i:Int)).f_End))&&!decide ((lget c.f_Peers (i:Int)).f_End=zEnd))<;>rfl
theorem sha_loop(c:S_api_Conf)(E:List S_api_Entry)(out:List S_lint_Odd)(i:Nat)(hi:i<c.f_Peers.length)(hn:c.f_Peers.length≤1000):∀ (k m:Nat),m+k=i→lint_finder_shared.l0 (fS c E out) (i:Int) (m:Int)=some (if (((c.f_Peers.take i).drop m).any (fun p=>decide (p.f_Psk=(lget c.f_Peers (i:Int)).f_Psk))&&!decide ((lget c.f_Peers (i:Int)).f_Psk=zKey))=true then .ret true else .nx ())
 | 0,m,h=>by
  rw [lint_finder_shared.l0.eq_def]
  show (if (decide ((m:Int)<((lsub c.f_Peers 0 (i:Int)).length:Int)))=true then _ else _)=_
  rw [take_lsub,decide_eq_false (by rw [List.length_take];omega),if_neg Bool.false_ne_true,List.drop_eq_nil_of_le (by rw [List.length_take];omega)];rfl
 | k+1,m,h=>by
  have hm:m<(c.f_Peers.take i).length:=by rw [List.length_take];omega
  have ih:=sha_loop c E out i hi hn k (m+1) (by omega)
  rw [lint_finder_shared.l0.eq_def]
  show (if (decide ((m:Int)<((lsub c.f_Peers 0 (i:Int)).length:Int)))=true then (if (0:Int)≤(m:Int)∧(m:Int)<((lsub c.f_Peers 0 (i:Int)).length:Int) then if (decide ((lget (lsub c.f_Peers 0 (i:Int)) (m:Int)).f_Psk=(lget c.f_Peers (i:Int)).f_Psk))=true then (some (decide ((lget c.f_Peers (i:Int)).f_Psk=zKey))>>=fun t28=>if (!t28)=true then (some (.ret true)) else (lint_finder_shared.l0 (fS c E out) (i:Int) (wr .i64 ((m:Int)+1)))) else (lint_finder_shared.l0 (fS c E out) (i:Int) (wr .i64 ((m:Int)+1))) else none) else (some (.nx ())))=_
  rw [take_lsub,decide_eq_true (by omega),if_pos rfl,if_pos (by omega),lget_at hm,wr1 (by omega),bindM_some,List.drop_eq_getElem_cons hm,List.any_cons,ih]
  cases decide ((List.take i c.f_Peers)[m].f_Psk=(lget c.f_Peers (i:Int)).f_Psk) with
  | false=>rw [if_neg Bool.false_ne_true,Bool.false_or]
  | true =>
   rw [if_pos rfl,Bool.true_or,Bool.true_and]
   cases decide ((lget c.f_Peers (i:Int)).f_Psk=zKey) with
   | true=>rw [Bool.not_true,Bool.and_false,if_neg Bool.false_ne_true,if_neg Bool.false_ne_true]
   | false=>rw [Bool.not_false,if_pos rfl,if_pos rfl]
theorem sha_code(c:S_api_Conf)(E:List S_api_Entry)(out:List S_lint_Odd)(i:Nat)(hi:i<c.f_Peers.length)(hn:c.f_Peers.length≤1000):lint_finder_shared (fS c E out) (i:Int)=some (shaB c i):=by
 have h:=sha_loop c E out i hi hn i 0 (by omega)
 rw [show ((0:Nat):Int)=0 from rfl,List.drop_zero] at h
 unfold lint_finder_shared shaB
 show (if (0:Int)≤(i:Int)∧(i:Int)<(c.f_Peers.length:Int) then if (0:Int)≤0∧(0:Int)≤(i:Int)∧(i:Int)≤(c.f_Peers.length:Int) then lint_finder_shared.l0 (fS c E out) (i:Int) 0>>=_ else none else none)=_
 rw [if_pos (by omega),if_pos (by omega),h,bindM_some]
 cases ((c.f_Peers.take i).any (fun p=>decide (p.f_Psk=(lget c.f_Peers (i:Int)).f_Psk))&&!decide ((lget c.f_Peers (i:Int)).f_Psk=zKey))<;>rfl
theorem before_end(c:S_api_Conf)(i:Nat)(hi:i<c.f_Peers.length)(hn:c.f_Peers.length≤1000):∀ (k m:Nat),m+k=i→crawlwayref60_before.l0 c (i:Int) false (m:Int)=some (if ((c.f_Peers.take i).drop m).any (fun p=>decide (p.f_End=(lget c.f_Peers (i:Int)).f_End))=true then .ret true else .nx ())
 | 0,m,h=>by
  rw [crawlwayref60_before.l0.eq_def,decide_eq_false (by omega),if_neg Bool.false_ne_true,List.drop_eq_nil_of_le (by rw [List.length_take];omega)];rfl
 | k+1,m,h=>by
  have hm:m<(c.f_Peers.take i).length:=by rw [List.length_take];omega
  have hm2:m<c.f_Peers.length:=by omega
  have ih:=before_end c i hi hn k (m+1) (by omega)
  rw [crawlwayref60_before.l0.eq_def,decide_eq_true (by omega),if_pos rfl,if_neg Bool.false_ne_true,if_pos (by decide),if_pos (show (0:Int)≤(m:Int)∧(m:Int)<(c.f_Peers.length:Int) by omega),if_pos (by omega),lget_at hm2,wr1 (by omega),List.drop_eq_getElem_cons hm,List.any_cons,List.getElem_take]
  by_cases he:c.f_Peers[m].f_End=(lget c.f_Peers (i:Int)).f_End
  ·rw [decide_eq_true he,if_pos rfl,Bool.true_or,if_pos rfl]
  ·rw [decide_eq_false he,if_neg Bool.false_ne_true,ih,Bool.false_or]
theorem before_psk(c:S_api_Conf)(i:Nat)(hi:i<c.f_Peers.length)(hn:c.f_Peers.length≤1000):∀ (k m:Nat),m+k=i→crawlwayref60_before.l0 c (i:Int) true (m:Int)=some (if ((c.f_Peers.take i).drop m).any (fun p=>decide (p.f_Psk=(lget c.f_Peers (i:Int)).f_Psk))=true then .ret true else .nx ())
 | 0,m,h=>by
  rw [crawlwayref60_before.l0.eq_def,decide_eq_false (by omega),if_neg Bool.false_ne_true,List.drop_eq_nil_of_le (by rw [List.length_take];omega)];rfl
 | k+1,m,h=>by
  have hm:m<(c.f_Peers.take i).length:=by rw [List.length_take];omega
  have hm2:m<c.f_Peers.length:=by omega
  have ih:=before_psk c i hi hn k (m+1) (by omega)
  have hnt:¬ (!true)=true:=by decide
  rw [crawlwayref60_before.l0.eq_def,decide_eq_true (by omega),if_pos rfl,if_pos rfl,if_pos (show (0:Int)≤(m:Int)∧(m:Int)<(c.f_Peers.length:Int) by omega),if_pos (show (0:Int)≤(i:Int)∧(i:Int)<(c.f_Peers.length:Int) by omega),lget_at hm2,wr1 (by omega),List.drop_eq_getElem_cons hm,List.any_cons,List.getElem_take]
  by_cases he:c.f_Peers[m].f_Psk=(lget c.f_Peers (i:Int)).f_Psk
  ·rw [decide_eq_true he,if_pos rfl,Bool.true_or,if_pos rfl]
  ·rw [decide_eq_false he,if_neg Bool.false_ne_true,if_neg hnt,ih,Bool.false_or]
theorem before_code(c:S_api_Conf)(i:Nat)(hi:i<c.f_Peers.length)(hn:c.f_Peers.length≤1000):crawlwayref60_before c (i:Int) false=some ((c.f_Peers.take i).any (fun p=>decide (p.f_End=(lget c.f_Peers (i:Int)).f_End)))∧crawlwayref60_before c (i:Int) true=some ((c.f_Peers.take i).any (fun p=>decide (p.f_Psk=(lget c.f_Peers (i:Int)).f_Psk))):=by
 have h1:=before_end c i hi hn i 0 (by omega)
 have h2:=before_psk c i hi hn i 0 (by omega)
 rw [show ((0:Nat):Int)=0 from rfl,List.drop_zero] at h1 h2
 unfold crawlwayref60_before
 rw [h1,h2,bindM_some,bindM_some]
 constructor
 ·cases (c.f_Peers.take i).any (fun p=>decide (p.f_End=(lget c.f_Peers (i:Int)).f_End))<;>rfl
 ·cases (c.f_Peers.take i).any (fun p=>decide (p.f_Psk=(lget c.f_Peers (i:Int)).f_Psk))<;>rfl
theorem dbl_l1(c:S_api_Conf)(E:List S_api_Entry)(o0:List S_lint_Odd)(hn:c.f_Peers.length≤20):∀ (k i:Nat) (out:List S_lint_Odd),i+k=c.f_Peers.length→out.length≤5000+i →
  lint_All.l1 (fS c E o0) (i:Int) (fS c E out)=some (fS c E (out++gat (one 3 (dblB c)) i k))
 | 0,i,out,h,ho=>by
  rw [lint_All.l1.eq_def]
  show (if decide ((i:Int)<(c.f_Peers.length:Int))=true then _ else _)=some (fS c E (out++[]))
  rw [decide_eq_false (by omega),if_neg Bool.false_ne_true,List.append_nil]
 | k+1,i,out,h,ho=>by
  rw [lint_All.l1.eq_def,dbl_code c E out i (by omega) (by omega),bindM_some,wr1 (by omega),step_out]
  show (if decide ((i:Int)<(c.f_Peers.length:Int))=true then (if dblB c i=true then (if (out.length+1)*48≤140737488355328 then lint_All.l1 (fS c E o0) ((i+1:Nat):Int) (fS c E (out++[mkO 3 (i:Int) zPx])) else none) else lint_All.l1 (fS c E o0) ((i+1:Nat):Int) (fS c E out)) else _)=_
  rw [decide_eq_true (by omega),if_pos rfl,if_pos (show (out.length+1)*48≤140737488355328 by omega)]
  cases dblB c i with
  | true=>rw [if_pos rfl,if_pos rfl];exact dbl_l1 c E o0 hn k (i+1) _ (by omega) (by rw [List.length_append,List.length_singleton];omega)
  | false=>rw [if_neg Bool.false_ne_true,if_neg Bool.false_ne_true];exact dbl_l1 c E o0 hn k (i+1) _ (by omega) (by omega)
theorem sha_l2(c:S_api_Conf)(E:List S_api_Entry)(o0:List S_lint_Odd)(hn:c.f_Peers.length≤20):∀ (k i:Nat) (out:List S_lint_Odd),i+k=c.f_Peers.length→out.length≤5000+i →
  lint_All.l2 (fS c E o0) (i:Int) (fS c E out)=some (fS c E (out++gat (one 4 (shaB c)) i k))
 | 0,i,out,h,ho=>by
  rw [lint_All.l2.eq_def]
  show (if decide ((i:Int)<(c.f_Peers.length:Int))=true then _ else _)=some (fS c E (out++[]))
  rw [decide_eq_false (by omega),if_neg Bool.false_ne_true,List.append_nil]
 | k+1,i,out,h,ho=>by
  rw [lint_All.l2.eq_def,sha_code c E out i (by omega) (by omega),bindM_some,wr1 (by omega),step_out]
  show (if decide ((i:Int)<(c.f_Peers.length:Int))=true then (if shaB c i=true then (if (out.length+1)*48≤140737488355328 then lint_All.l2 (fS c E o0) ((i+1:Nat):Int) (fS c E (out++[mkO 4 (i:Int) zPx])) else none) else lint_All.l2 (fS c E o0) ((i+1:Nat):Int) (fS c E out)) else _)=_
  rw [decide_eq_true (by omega),if_pos rfl,if_pos (show (out.length+1)*48≤140737488355328 by omega)]
  cases shaB c i with
  | true=>rw [if_pos rfl,if_pos rfl];exact sha_l2 c E o0 hn k (i+1) _ (by omega) (by rw [List.length_append,List.length_singleton];omega)
  | false=>rw [if_neg Bool.false_ne_true,if_neg Bool.false_ne_true];exact sha_l2 c E o0 hn k (i+1) _ (by omega) (by omega)
theorem rdbl_l1(c:S_api_Conf)(hn:c.f_Peers.length≤20):∀ (k i:Nat) (out:List S_lint_Odd),i+k=c.f_Peers.length→out.length≤5000+i →
  crawlwayref60_All.l1 c out (i:Int)=some (out++gat (one 3 (dblB c)) i k)
 | 0,i,out,h,ho=>by
  rw [crawlwayref60_All.l1.eq_def,decide_eq_false (by omega),if_neg Bool.false_ne_true]
  show _=some (out++[])
  rw [List.append_nil]
 | k+1,i,out,h,ho=>by
  rw [crawlwayref60_All.l1.eq_def,decide_eq_true (by omega),if_pos rfl,wr1 (by omega),step_out,if_pos (show (0:Int)≤(i:Int)∧(i:Int)<(c.f_Peers.length:Int) by omega),(before_code c i (by omega) (by omega)).1,bindM_some,if_pos (show (out.length+1)*48≤140737488355328 by omega)]
  unfold dblB
  cases decide ((lget c.f_Peers (i:Int)).f_End=zEnd) with
  | true =>
   rw [Bool.not_true,if_neg Bool.false_ne_true,Bool.and_false,if_neg Bool.false_ne_true]
   exact rdbl_l1 c hn k (i+1) _ (by omega) (by omega)
  | false =>
   rw [Bool.not_false,if_pos rfl,Bool.and_true]
   cases (c.f_Peers.take i).any (fun p=>decide (p.f_End=(lget c.f_Peers (i:Int)).f_End)) with
   | true=>rw [if_pos rfl,if_pos rfl];exact rdbl_l1 c hn k (i+1) _ (by omega) (by rw [List.length_append,List.length_singleton];omega)
   | false=>rw [if_neg Bool.false_ne_true,if_neg Bool.false_ne_true];exact rdbl_l1 c hn k (i+1) _ (by omega) (by omega)
theorem rsha_l2(c:S_api_Conf)(hn:c.f_Peers.length≤20):∀ (k i:Nat) (out:List S_lint_Odd),i+k=c.f_Peers.length→out.length≤5000+i →
  crawlwayref60_All.l2 c out (i:Int)=some (out++gat (one 4 (shaB c)) i k)
 | 0,i,out,h,ho=>by
  rw [crawlwayref60_All.l2.eq_def,decide_eq_false (by omega),if_neg Bool.false_ne_true]
  show _=some (out++[])
  rw [List.append_nil]
 | k+1,i,out,h,ho=>by
  rw [crawlwayref60_All.l2.eq_def,decide_eq_true (by omega),if_pos rfl,wr1 (by omega),step_out,if_pos (show (0:Int)≤(i:Int)∧(i:Int)<(c.f_Peers.length:Int) by omega),ref_zero,bindM_some,(before_code c i (by omega) (by omega)).2,bindM_some,if_pos (show (out.length+1)*48≤140737488355328 by omega)]
  unfold shaB
  cases decide ((lget c.f_Peers (i:Int)).f_Psk=zKey) with
  | true =>
   rw [Bool.not_true,if_neg Bool.false_ne_true,Bool.and_false,if_neg Bool.false_ne_true]
   exact rsha_l2 c hn k (i+1) _ (by omega) (by omega)
  | false =>
   rw [Bool.not_false,if_pos rfl,Bool.and_true]
   cases (c.f_Peers.take i).any (fun p=>decide (p.f_Psk=(lget c.f_Peers (i:Int)).f_Psk)) with
   | true=>rw [if_pos rfl,if_pos rfl];exact rsha_l2 c hn k (i+1) _ (by omega) (by rw [List.length_append,List.length_singleton];omega)
   | false=>rw [if_neg Bool.false_ne_true,if_neg Bool.false_ne_true];exact rsha_l2 c hn k (i+1) _ (by omega) (by omega)
end Go.Proofs.YtahlbjmafceoeaaGreatDoor.Lint
set_option maxRecDepth 20000
namespace Go.Proofs.YtahlbjmafceoeaaGreatDoor.Lint
open E Go.RowKit Adr Cid Agg
def oddsE(kd:Int)(g:Px→Bool)(L:List S_api_Entry):List S_lint_Odd:=(L.filter fun e=>g e.f_P).map fun e=>mkO kd e.f_Owner e.f_P
theorem oddsE_cons(kd:Int)(g:Px→Bool)(e:S_api_Entry)(L:List S_api_Entry):oddsE kd g (e::L)=if g e.f_P=true then mkO kd e.f_Owner e.f_P::oddsE kd g L else oddsE kd g L:=by
 unfold oddsE
 cases h:g e.f_P with
 | true=>rw [List.filter_cons_of_pos (p:=fun e:S_api_Entry=>g e.f_P) h,if_pos rfl];rfl
 | false=>rw [List.filter_cons_of_neg (p:=fun e:S_api_Entry=>g e.f_P) (by rw [h];decide),if_neg Bool.false_ne_true]
theorem oddsE_append(kd:Int)(g:Px→Bool)(A B:List S_api_Entry):oddsE kd g (A++B)=oddsE kd g A++oddsE kd g B:=by unfold oddsE;rw [List.filter_append,List.map_append]
theorem oddsE_len(kd:Int)(g:Px→Bool)(L:List S_api_Entry):(oddsE kd g L).length≤L.length:=by unfold oddsE;rw [List.length_map];exact List.length_filter_le ..
theorem step_odd(out:List S_lint_Odd)(kd:Int)(g:Px→Bool)(e:S_api_Entry)(L:List S_api_Entry):out++oddsE kd g (e::L)=(if g e.f_P=true then out++[mkO kd e.f_Owner e.f_P] else out)++oddsE kd g L:=by
 rw [oddsE_cons]
 split<;>simp
theorem thin_ex(E:List S_api_Entry)(hE:∀ e∈E,ok_api_Prefix e.f_P)(hn:E.length≤10000):∃ TH,flat_Thin E=some TH∧crawlwayref59_Thin E=some TH∧(TH.map S_api_Entry.f_P).Nodup∧TH.length≤E.length:=by
 obtain ⟨O,hO⟩:=counts E hE hn
 obtain ⟨T,hT,rfl,hnd⟩:=allE hO.sorted
 have hTl:T.length≤E.length:=by have:=hO.len;rwa [List.length_map] at this
 have hsub:((thinT T).map en).Sublist (T.map en):=List.filter_sublist.map _
 refine ⟨(thinT T).map en,flatThin_code E T (by omega) hT hO.code,refThin_code E T (by omega) hT hnd hO.doc,hO.sorted.nd.sublist (hsub.map _),?_⟩
 have h1:=hsub.length_le
 have h2:=hO.len
 omega
def gS(TP:List Px)(P:Px):Bool:=!(TP.any fun q=>decide (q=P))
theorem any_mem{TP:List Px}{P:Px}:(TP.any fun q=>decide (q=P))=true↔P∈TP:=by
 rw [List.any_eq_true]
 exact ⟨fun ⟨q,hq,e⟩=>of_decide_eq_true e▸hq,fun h=>⟨P,h,decide_eq_true rfl⟩⟩
theorem mget_any(TP:List Px)(P:Px):mget (tm TP) P false=TP.any fun q=>decide (q=P):=by
 by_cases h:P∈TP
 ·rw [mget_yes h,any_mem.2 h]
 ·rw [mget_no h]
  cases hb:TP.any fun q=>decide (q=P) with
  | false=>rfl
  | true=>exact absurd (any_mem.1 hb) h
theorem place_loop(TH:List S_api_Entry)(P:Px)(hn:TH.length≤10000):∀ (k i:Nat),i+k=TH.length→∃ r,crawlwayref25_Place.l0 TH P (i:Int)=some r∧((∃ t:Int,r=.ret t∧0≤t∧(((TH.drop i).map S_api_Entry.f_P).any fun q=>decide (q=P))=true)∨(r=.nx ()∧(((TH.drop i).map S_api_Entry.f_P).any fun q=>decide (q=P))=false))
 | 0,i,h=>by
  refine ⟨.nx (),?_,.inr ⟨rfl,?_⟩⟩
  ·rw [crawlwayref25_Place.l0.eq_def,decide_eq_false (by omega),if_neg Bool.false_ne_true]
  ·rw [List.drop_eq_nil_of_le (by omega)];rfl
 | k+1,i,h=>by
  have hi:i<TH.length:=by omega
  rw [crawlwayref25_Place.l0.eq_def,decide_eq_true (by omega),if_pos rfl,if_pos (by omega),lget_at hi,wr1 (by omega),List.drop_eq_getElem_cons hi,List.map_cons,List.any_cons]
  cases hd:decide (TH[i].f_P=P) with
  | true=>exact ⟨.ret (i:Int),by rw [if_pos rfl],.inl ⟨(i:Int),rfl,by omega,rfl⟩⟩
  | false =>
   rw [if_neg Bool.false_ne_true,Bool.false_or]
   exact place_loop TH P hn k (i+1) (by omega)
theorem place_code(TH:List S_api_Entry)(P:Px)(hn:TH.length≤10000):∃ t,crawlwayref25_Place TH P=some t∧decide (t<0)=gS (TH.map S_api_Entry.f_P) P:=by
 obtain ⟨r,h1,h2⟩:=place_loop TH P hn TH.length 0 (by omega)
 rw [show ((0:Nat):Int)=0 from rfl] at h1
 rw [List.drop_zero] at h2
 unfold crawlwayref25_Place gS
 rw [h1,bindM_some]
 rcases h2 with ⟨t,rfl,h0,h3⟩ | ⟨rfl,h3⟩
 ·exact ⟨t,rfl,by rw [h3,decide_eq_false (by omega)];rfl⟩
 ·exact ⟨-1,rfl,by rw [h3];rfl⟩
theorem map_l3(TH:List S_api_Entry)(hn:TH.length≤10000)(hnd:(TH.map S_api_Entry.f_P).Nodup):∀ (k i:Nat),i+k=TH.length→lint_All.l3 TH (i:Int) (tm ((TH.take i).map S_api_Entry.f_P))=some (tm (TH.map S_api_Entry.f_P))
 | 0,i,h=>by
  rw [lint_All.l3.eq_def,decide_eq_false (by omega),if_neg Bool.false_ne_true,List.take_of_length_le (by omega)]
 | k+1,i,h=>by
  have hi:i<TH.length:=by omega
  have h1:((TH.take (i+1)).map S_api_Entry.f_P).Nodup:=hnd.sublist ((List.take_sublist ..).map _)
  have e:(TH.take (i+1)).map S_api_Entry.f_P=(TH.take i).map S_api_Entry.f_P++[TH[i].f_P]:=by rw [List.take_succ_eq_append_getElem hi,List.map_append];rfl
  rw [e,List.nodup_append] at h1
  have hno:TH[i].f_P∉(TH.take i).map S_api_Entry.f_P:=fun hm=>h1.2.2 _ hm _ (List.mem_singleton.2 rfl) rfl
  have ih:=map_l3 TH hn hnd k (i+1) (by omega)
  rw [e] at ih
  rw [lint_All.l3.eq_def,decide_eq_true (by omega),if_pos rfl,if_pos (by omega),lget_at hi,wr1 (by omega),mput_tm _ _ hno]
  exact ih
theorem spi_l5(c:S_api_Conf)(E:List S_api_Entry)(o0:List S_lint_Odd)(TP:List Px)(i:Nat)(l:List Px)(hl:(lget c.f_Peers (i:Int)).f_Allowed=l)(hn:l.length≤1000):∀ (k j:Nat) (out:List S_lint_Odd),j+k=l.length→out.length≤50000+j →
  lint_All.l5 (fS c E o0) (tm TP) (i:Int) (j:Int) (fS c E out)=some (fS c E (out++oddsE 5 (gS TP) ((l.drop j).map (mkEn i))))
 | 0,j,out,h,ho=>by
  rw [lint_All.l5.eq_def]
  show (if decide ((j:Int)<(((lget c.f_Peers (i:Int)).f_Allowed).length:Int))=true then _ else _)=_
  rw [hl,decide_eq_false (by omega),if_neg Bool.false_ne_true,List.drop_eq_nil_of_le (by omega)]
  show _=some (fS c E (out++[]))
  rw [List.append_nil]
 | k+1,j,out,h,ho=>by
  have hj:j<l.length:=by omega
  rw [lint_All.l5.eq_def]
  show (if decide ((j:Int)<(((lget c.f_Peers (i:Int)).f_Allowed).length:Int))=true then (if (0:Int)≤(j:Int)∧(j:Int)<(((lget c.f_Peers (i:Int)).f_Allowed).length:Int) then if (!(mget (tm TP) (lget ((lget c.f_Peers (i:Int)).f_Allowed) (j:Int)) false))=true then (if (out.length+1)*48≤140737488355328 then lint_All.l5 (fS c E o0) (tm TP) (i:Int) (wr .i64 ((j:Int)+1)) (fS c E (out++[mkO 5 (i:Int) (lget ((lget c.f_Peers (i:Int)).f_Allowed) (j:Int))])) else none) else (lint_All.l5 (fS c E o0) (tm TP) (i:Int) (wr .i64 ((j:Int)+1)) (fS c E out)) else none) else (some (fS c E out)))=_
  rw [hl,decide_eq_true (by omega),if_pos rfl,if_pos (by omega),lget_at hj,wr1 (by omega),mget_any,List.drop_eq_getElem_cons hj,List.map_cons,step_odd,if_pos (show (out.length+1)*48≤140737488355328 by omega)]
  show (if gS TP l[j]=true then _ else _)=some (fS c E ((if gS TP l[j]=true then out++[mkO 5 (i:Int) l[j]] else out)++_))
  cases gS TP l[j] with
  | true=>rw [if_pos rfl,if_pos rfl];exact spi_l5 c E o0 TP i l hl hn k (j+1) _ (by omega) (by rw [List.length_append,List.length_singleton];omega)
  | false=>rw [if_neg Bool.false_ne_true,if_neg Bool.false_ne_true];exact spi_l5 c E o0 TP i l hl hn k (j+1) _ (by omega) (by omega)
theorem spo_l4{c:S_api_Conf}(hc:Mod c)(E:List S_api_Entry)(o0:List S_lint_Odd)(TP:List Px):∀ (k i:Nat) (out:List S_lint_Odd),i+k=c.f_Peers.length→out.length≤20000+80*i →
  lint_All.l4 (fS c E o0) (tm TP) (i:Int) (fS c E out)=some (fS c E (out++oddsE 5 (gS TP) (ents i (c.f_Peers.drop i))))
 | 0,i,out,h,ho=>by
  rw [lint_All.l4.eq_def]
  show (if decide ((i:Int)<(c.f_Peers.length:Int))=true then _ else _)=_
  rw [decide_eq_false (by omega),if_neg Bool.false_ne_true,List.drop_eq_nil_of_le (by omega)]
  show _=some (fS c E (out++[]))
  rw [List.append_nil]
 | k+1,i,out,h,ho=>by
  have hlen:=hc.len
  have hi:i<c.f_Peers.length:=by omega
  have h80:=hc.each _ (List.getElem_mem hi)
  have hj:=spi_l5 c E o0 TP i c.f_Peers[i].f_Allowed (by rw [lget_at hi]) (by omega) c.f_Peers[i].f_Allowed.length 0 out (by omega) (by omega)
  rw [show ((0:Nat):Int)=0 from rfl,List.drop_zero] at hj
  rw [lint_All.l4.eq_def]
  show (if decide ((i:Int)<(c.f_Peers.length:Int))=true then (if (0:Int)≤(i:Int)∧(i:Int)<(c.f_Peers.length:Int) then lint_All.l5 (fS c E o0) (tm TP) (i:Int) 0 (fS c E out)>>=_ else none) else _)=_
  rw [decide_eq_true (by omega),if_pos rfl,if_pos (by omega),hj,bindM_some,wr1 (by omega),List.drop_eq_getElem_cons hi,ents_cons,oddsE_append,←List.append_assoc]
  have hol:=oddsE_len 5 (gS TP) (c.f_Peers[i].f_Allowed.map (mkEn i))
  rw [List.length_map] at hol
  exact spo_l4 hc E o0 TP k (i+1) _ (by omega) (by rw [List.length_append];omega)
def covB(p q:Px):Bool:=(cidr_Covers p q).getD false
theorem cov_both{p q:Px}(hp:IsPf p)(hq:IsPf q):cidr_Covers p q=some (covB p q)∧crawlwayref11_Covers p q=some (covB p q):=by
 obtain ⟨t,ht,rfl⟩:=hp
 obtain ⟨u,hu,rfl⟩:=hq
 obtain ⟨h1,h2⟩:=cov_pf ht hu
 unfold covB
 rw [h1,h2];exact ⟨rfl,rfl⟩
def inL(E:List S_api_Entry)(P:Px):List Px:=(E.filter fun e=>decide (e.f_P.f_Bits>P.f_Bits)&&covB P e.f_P).map S_api_Entry.f_P
theorem inL_cons(e:S_api_Entry)(E:List S_api_Entry)(P:Px):inL (e::E) P=if (decide (e.f_P.f_Bits>P.f_Bits)&&covB P e.f_P)=true then e.f_P::inL E P else inL E P:=by
 unfold inL
 cases h:(decide (e.f_P.f_Bits>P.f_Bits)&&covB P e.f_P) with
 | true=>rw [List.filter_cons_of_pos (p:=fun e:S_api_Entry=>decide (e.f_P.f_Bits>P.f_Bits)&&covB P e.f_P) h,if_pos rfl];rfl
 | false=>rw [List.filter_cons_of_neg (p:=fun e:S_api_Entry=>decide (e.f_P.f_Bits>P.f_Bits)&&covB P e.f_P) (by rw [h];decide),if_neg Bool.false_ne_true]
theorem inL_sub{E:List S_api_Entry}{P x:Px}(h:x∈inL E P):∃ e∈E,e.f_P=x:=by
 unfold inL at h
 obtain ⟨e,he,ex⟩:=List.mem_map.1 h
 exact ⟨e,(List.mem_filter.1 he).1,ex⟩
theorem inL_len(E:List S_api_Entry)(P:Px):(inL E P).length≤E.length:=by unfold inL;rw [List.length_map];exact List.length_filter_le ..
theorem hin_l8(c:S_api_Conf)(E:List S_api_Entry)(o0 out:List S_lint_Odd)(i:Nat)(j:Int)(P:Px)(hP0:lget ((lget c.f_Peers (i:Int)).f_Allowed) j=P)(hP:IsPf P)(hE:∀ e∈E,IsPf e.f_P)(hn:E.length≤10000):∀ (k m:Nat) (acc:List Px),m+k=E.length→acc.length≤m →
  lint_All.l8 (fS c E o0) (i:Int) j (fS c E out) acc (m:Int)=some (acc++inL (E.drop m) P)
 | 0,m,acc,h,ha=>by
  rw [lint_All.l8.eq_def]
  show (if decide ((m:Int)<(E.length:Int))=true then _ else _)=_
  rw [decide_eq_false (by omega),if_neg Bool.false_ne_true,List.drop_eq_nil_of_le (by omega)]
  show _=some (acc++[])
  rw [List.append_nil]
 | k+1,m,acc,h,ha=>by
  have hm:m<E.length:=by omega
  have hcov:=(cov_both hP (hE _ (List.getElem_mem hm))).1
  have i1:=hin_l8 c E o0 out i j P hP0 hP hE hn k (m+1) (acc++[E[m].f_P]) (by omega) (by rw [List.length_append,List.length_singleton];omega)
  have i2:=hin_l8 c E o0 out i j P hP0 hP hE hn k (m+1) acc (by omega) (by omega)
  rw [lint_All.l8.eq_def]
  show (if decide ((m:Int)<(E.length:Int))=true then (if (0:Int)≤(m:Int)∧(m:Int)<(E.length:Int) then if (decide (((lget E (m:Int)).f_P).f_Bits>(lget ((lget c.f_Peers (i:Int)).f_Allowed) j).f_Bits))=true then (cidr_Covers (lget ((lget c.f_Peers (i:Int)).f_Allowed) j) ((lget E (m:Int)).f_P)>>=fun t266=>if t266=true then (if (acc.length+1)*32≤140737488355328 then lint_All.l8 (fS c E o0) (i:Int) j (fS c E out) (acc++[(lget E (m:Int)).f_P]) (wr .i64 ((m:Int)+1)) else none) else (lint_All.l8 (fS c E o0) (i:Int) j (fS c E out) acc (wr .i64 ((m:Int)+1)))) else (lint_All.l8 (fS c E o0) (i:Int) j (fS c E out) acc (wr .i64 ((m:Int)+1))) else none) else _)=_
  rw [hP0,decide_eq_true (by omega),if_pos rfl,if_pos (by omega),lget_at hm,wr1 (by omega),List.drop_eq_getElem_cons hm,inL_cons,hcov,bindM_some,if_pos (show (acc.length+1)*32≤140737488355328 by omega),i1,i2]
  cases decide (E[m].f_P.f_Bits>P.f_Bits) with
  | false=>rw [if_neg Bool.false_ne_true,Bool.false_and,if_neg Bool.false_ne_true]
  | true =>
   rw [if_pos rfl,Bool.true_and]
   cases covB P E[m].f_P with
   | false=>rw [if_neg Bool.false_ne_true,if_neg Bool.false_ne_true]
   | true=>rw [if_pos rfl,if_pos rfl,List.append_assoc];rfl
theorem rhin(E:List S_api_Entry)(P:Px)(hP:IsPf P)(hE:∀ e∈E,IsPf e.f_P)(hn:E.length≤10000):∀ (k m:Nat) (acc:List Px),m+k=E.length→acc.length≤m →
  crawlwayref60_hidden.l0 E P acc (m:Int)=some (acc++inL (E.drop m) P)
 | 0,m,acc,h,ha=>by
  rw [crawlwayref60_hidden.l0.eq_def,decide_eq_false (by omega),if_neg Bool.false_ne_true,List.drop_eq_nil_of_le (by omega)]
  show _=some (acc++[])
  rw [List.append_nil]
 | k+1,m,acc,h,ha=>by
  have hm:m<E.length:=by omega
  have hcov:=(cov_both hP (hE _ (List.getElem_mem hm))).2
  have i1:=rhin E P hP hE hn k (m+1) (acc++[E[m].f_P]) (by omega) (by rw [List.length_append,List.length_singleton];omega)
  have i2:=rhin E P hP hE hn k (m+1) acc (by omega) (by omega)
  rw [crawlwayref60_hidden.l0.eq_def,decide_eq_true (by omega),if_pos rfl,if_pos (show (0:Int)≤(m:Int)∧(m:Int)<(E.length:Int) by omega),lget_at hm,wr1 (by omega),List.drop_eq_getElem_cons hm,inL_cons,hcov,if_pos (show (0:Int)≤(m:Int)∧(m:Int)<(E.length:Int) by omega),bindM_some,if_pos (show (0:Int)≤(m:Int)∧(m:Int)<(E.length:Int) by omega),if_pos (show (acc.length+1)*32≤140737488355328 by omega),i1,i2]
  cases decide (E[m].f_P.f_Bits>P.f_Bits) with
  | false=>rw [if_neg Bool.false_ne_true,Bool.false_and,if_neg Bool.false_ne_true]
  | true =>
   rw [if_pos rfl,Bool.true_and]
   cases covB P E[m].f_P with
   | false=>rw [if_neg Bool.false_ne_true,if_neg Bool.false_ne_true]
   | true=>rw [if_pos rfl,if_pos rfl,List.append_assoc];rfl
theorem cover_both(xs:List Px)(hx:∀ x∈xs,ok_api_Prefix x)(hn:xs.length≤10000):∃ C,aggregate_Cover xs=some C∧crawlwayref53_Cover xs=some C:=by
 obtain ⟨S,hS⟩:=res_of xs hx hn
 exact ⟨_,hS.cs,hS.cr⟩
def gH(E:List S_api_Entry)(P:Px):Bool:=decide ((aggregate_Cover (inL E P)).getD []=[P])
theorem one_elem{β:Type}(C:List Px)(P:Px)(X Y:Option β):(if ((C.length:Int)==1)=true then (if (0:Int)≤0∧0<(C.length:Int) then if (decide (lget C 0=P))=true then X else Y else none) else Y)=if (decide (C=[P]))=true then X else Y:=by
 match C with
 | []=>rw [if_neg (by decide),if_neg (by simp)]
 | [x] =>
  have e:decide (([x]:List Px)=[P])=decide (x=P):=decide_eq_decide.2 (by simp)
  rw [if_pos (show ((([x]:List Px).length:Int)==1)=true from rfl),if_pos (show (0:Int)≤0∧0<(([x]:List Px).length:Int) from ⟨by decide,by show (0:Int)<1;decide⟩),e];rfl
 | x::y::r =>
  have h1:¬ ((((x::y::r).length:Nat):Int)==1)=true:=by
   rw [beq_iff_eq,List.length_cons,List.length_cons];omega
  rw [if_neg h1,if_neg (by simp)]
theorem okE_of{E:List S_api_Entry}(hE:∀ e∈E,IsPf e.f_P)(P:Px):∀ x∈inL E P,ok_api_Prefix x:=fun x hx=>by
 obtain ⟨e,he,rfl⟩:=inL_sub hx
 obtain ⟨t,ht,e2⟩:=hE e he
 rw [e2];exact ok_pf ht
theorem hidden_code(E:List S_api_Entry)(P:Px)(hP:IsPf P)(hE:∀ e∈E,IsPf e.f_P)(hn:E.length≤10000):crawlwayref60_hidden E P=some (gH E P):=by
 have h:=rhin E P hP hE hn E.length 0 [] (by omega) (by simp)
 rw [show ((0:Nat):Int)=0 from rfl,List.drop_zero,List.nil_append] at h
 obtain ⟨C,c1,c2⟩:=cover_both (inL E P) (okE_of hE P) (by have:=inL_len E P;omega)
 unfold crawlwayref60_hidden gH
 rw [h,bindM_some,c1,c2,bindM_some]
 have e:=one_elem C P (some true) (some false)
 have e2:(if (0:Int)≤0∧0<(C.length:Int) then some (decide (lget C 0=P)) else none)=(if (0:Int)≤0∧0<(C.length:Int) then if (decide (lget C 0=P))=true then some true else some false else none):=by
  cases decide (lget C 0=P)<;>rfl
 rw [e2,e]
 show _=some (decide (C=[P]))
 cases decide (C=[P])<;>rfl
theorem hii_l7(c:S_api_Conf)(E:List S_api_Entry)(hE:∀ e∈E,IsPf e.f_P)(hEn:E.length≤10000)(o0:List S_lint_Odd)(i:Nat)(l:List Px)(hl:(lget c.f_Peers (i:Int)).f_Allowed=l)(hPf:∀ q∈l,IsPf q)(hn:l.length≤1000):∀ (k j:Nat) (out:List S_lint_Odd),j+k=l.length→out.length≤50000+j →
  lint_All.l7 (fS c E o0) (i:Int) (j:Int) (fS c E out)=some (fS c E (out++oddsE 6 (gH E) ((l.drop j).map (mkEn i))))
 | 0,j,out,h,ho=>by
  rw [lint_All.l7.eq_def]
  show (if decide ((j:Int)<(((lget c.f_Peers (i:Int)).f_Allowed).length:Int))=true then _ else _)=_
  rw [hl,decide_eq_false (by omega),if_neg Bool.false_ne_true,List.drop_eq_nil_of_le (by omega)]
  show _=some (fS c E (out++[]))
  rw [List.append_nil]
 | k+1,j,out,h,ho=>by
  have hj:j<l.length:=by omega
  have hP0:lget ((lget c.f_Peers (i:Int)).f_Allowed) (j:Int)=l[j]:=by rw [hl,lget_at hj]
  have hh:=hin_l8 c E o0 out i (j:Int) l[j] hP0 (hPf _ (List.getElem_mem hj)) hE hEn E.length 0 [] (by omega) (by simp)
  rw [show ((0:Nat):Int)=0 from rfl,List.drop_zero,List.nil_append] at hh
  obtain ⟨C,c1,c2⟩:=cover_both (inL E l[j]) (okE_of hE l[j]) (by have:=inL_len E l[j];omega)
  have hg:decide (C=[l[j]])=gH E l[j]:=by unfold gH;rw [c1];rfl
  rw [lint_All.l7.eq_def]
  show (if decide ((j:Int)<(((lget c.f_Peers (i:Int)).f_Allowed).length:Int))=true then (if (0:Int)≤(j:Int)∧(j:Int)<(((lget c.f_Peers (i:Int)).f_Allowed).length:Int) then lint_All.l8 (fS c E o0) (i:Int) (j:Int) (fS c E out) ([]:List S_api_Prefix) 0>>=fun q252=>aggregate_Cover q252>>=fun t272=>if ((t272.length:Int)==1)=true then (if (0:Int)≤0∧0<(t272.length:Int) then if (decide (lget t272 0=lget ((lget c.f_Peers (i:Int)).f_Allowed) (j:Int)))=true then (if (out.length+1)*48≤140737488355328 then lint_All.l7 (fS c E o0) (i:Int) (wr .i64 ((j:Int)+1)) (fS c E (out++[mkO 6 (i:Int) (lget ((lget c.f_Peers (i:Int)).f_Allowed) (j:Int))])) else none) else (lint_All.l7 (fS c E o0) (i:Int) (wr .i64 ((j:Int)+1)) (fS c E out)) else none) else (lint_All.l7 (fS c E o0) (i:Int) (wr .i64 ((j:Int)+1)) (fS c E out)) else none) else _)=_
  rw [hP0,hl,decide_eq_true (by omega),if_pos rfl,if_pos (by omega),hh,bindM_some,c1,bindM_some,one_elem,hg,wr1 (by omega),List.drop_eq_getElem_cons hj,List.map_cons,step_odd,if_pos (show (out.length+1)*48≤140737488355328 by omega)]
  show _=some (fS c E ((if gH E l[j]=true then out++[mkO 6 (i:Int) l[j]] else out)++_))
  cases gH E l[j] with
  | true=>rw [if_pos rfl,if_pos rfl];exact hii_l7 c E hE hEn o0 i l hl hPf hn k (j+1) _ (by omega) (by rw [List.length_append,List.length_singleton];omega)
  | false=>rw [if_neg Bool.false_ne_true,if_neg Bool.false_ne_true];exact hii_l7 c E hE hEn o0 i l hl hPf hn k (j+1) _ (by omega) (by omega)
theorem hio_l6{c:S_api_Conf}(hc:Mod c)(E:List S_api_Entry)(hE:∀ e∈E,IsPf e.f_P)(hEn:E.length≤10000)(o0:List S_lint_Odd)(hPf:∀ p∈c.f_Peers,∀ q∈p.f_Allowed,IsPf q):∀ (k i:Nat) (out:List S_lint_Odd),i+k=c.f_Peers.length→out.length≤20000+80*i →
  lint_All.l6 (fS c E o0) (i:Int) (fS c E out)=some (fS c E (out++oddsE 6 (gH E) (ents i (c.f_Peers.drop i))))
 | 0,i,out,h,ho=>by
  rw [lint_All.l6.eq_def]
  show (if decide ((i:Int)<(c.f_Peers.length:Int))=true then _ else _)=_
  rw [decide_eq_false (by omega),if_neg Bool.false_ne_true,List.drop_eq_nil_of_le (by omega)]
  show _=some (fS c E (out++[]))
  rw [List.append_nil]
 | k+1,i,out,h,ho=>by
  have hlen:=hc.len
  have hi:i<c.f_Peers.length:=by omega
  have h80:=hc.each _ (List.getElem_mem hi)
  have hj:=hii_l7 c E hE hEn o0 i c.f_Peers[i].f_Allowed (by rw [lget_at hi]) (hPf _ (List.getElem_mem hi)) (by omega) c.f_Peers[i].f_Allowed.length 0 out (by omega) (by omega)
  rw [show ((0:Nat):Int)=0 from rfl,List.drop_zero] at hj
  rw [lint_All.l6.eq_def]
  show (if decide ((i:Int)<(c.f_Peers.length:Int))=true then (if (0:Int)≤(i:Int)∧(i:Int)<(c.f_Peers.length:Int) then lint_All.l7 (fS c E o0) (i:Int) 0 (fS c E out)>>=_ else none) else _)=_
  rw [decide_eq_true (by omega),if_pos rfl,if_pos (by omega),hj,bindM_some,wr1 (by omega),List.drop_eq_getElem_cons hi,ents_cons,oddsE_append,←List.append_assoc]
  have hol:=oddsE_len 6 (gH E) (c.f_Peers[i].f_Allowed.map (mkEn i))
  rw [List.length_map] at hol
  exact hio_l6 hc E hE hEn o0 hPf k (i+1) _ (by omega) (by rw [List.length_append];omega)
theorem rkind_l4(E:List S_api_Entry)(kd:Int)(g:Px→Bool)(hg:∀ e∈E,crawlwayref60_is E kd e=some (g e.f_P))(hn:E.length≤10000):∀ (k m:Nat) (out:List S_lint_Odd),m+k=E.length→out.length≤50000+m →
  crawlwayref60_All.l4 E kd out (m:Int)=some (out++oddsE kd g (E.drop m))
 | 0,m,out,h,ho=>by
  rw [crawlwayref60_All.l4.eq_def,decide_eq_false (by omega),if_neg Bool.false_ne_true,List.drop_eq_nil_of_le (by omega)]
  show _=some (out++[])
  rw [List.append_nil]
 | k+1,m,out,h,ho=>by
  have hm:m<E.length:=by omega
  rw [crawlwayref60_All.l4.eq_def,decide_eq_true (by omega),if_pos rfl,if_pos (show (0:Int)≤(m:Int)∧(m:Int)<(E.length:Int) by omega),lget_at hm,wr1 (by omega),hg _ (List.getElem_mem hm),bindM_some,if_pos (show (0:Int)≤(m:Int)∧(m:Int)<(E.length:Int) by omega),if_pos (show (0:Int)≤(m:Int)∧(m:Int)<(E.length:Int) by omega),if_pos (show (out.length+1)*48≤140737488355328 by omega),List.drop_eq_getElem_cons hm,step_odd]
  cases g E[m].f_P with
  | true=>rw [if_pos rfl,if_pos rfl];exact rkind_l4 E kd g hg hn k (m+1) _ (by omega) (by rw [List.length_append,List.length_singleton];omega)
  | false=>rw [if_neg Bool.false_ne_true,if_neg Bool.false_ne_true];exact rkind_l4 E kd g hg hn k (m+1) _ (by omega) (by omega)
theorem is_code{E:List S_api_Entry}{TH:List S_api_Entry}(hth:crawlwayref59_Thin E=some TH)(htl:TH.length≤10000)(hE:∀ e∈E,IsPf e.f_P)(hn:E.length≤10000):(∀ e∈E,crawlwayref60_is E 5 e=some (gS (TH.map S_api_Entry.f_P) e.f_P))∧∀ e∈E,crawlwayref60_is E 6 e=some (gH E e.f_P):=by
 refine ⟨fun e he=>?_,fun e he=>?_⟩
 ·obtain ⟨t,h1,h2⟩:=place_code TH e.f_P htl
  unfold crawlwayref60_is
  rw [if_neg (by decide),hth,bindM_some,h1,bindM_some,h2]
 ·unfold crawlwayref60_is
  rw [if_pos (by decide),hidden_code E e.f_P (hE e he) hE hn];rfl
theorem rkinds_l3(E:List S_api_Entry)(g5 g6:Px→Bool)(h5:∀ e∈E,crawlwayref60_is E 5 e=some (g5 e.f_P))(h6:∀ e∈E,crawlwayref60_is E 6 e=some (g6 e.f_P))(hn:E.length≤10000)(out:List S_lint_Odd)(ho:out.length≤20000) :
  crawlwayref60_All.l3 E out 5=some ((out++oddsE 5 g5 E)++oddsE 6 g6 E):=by
 have k5:=rkind_l4 E 5 g5 h5 hn E.length 0 out (by omega) (by omega)
 have hol:=oddsE_len 5 g5 E
 have k6:=rkind_l4 E 6 g6 h6 hn E.length 0 (out++oddsE 5 g5 E) (by omega) (by rw [List.length_append];omega)
 rw [show ((0:Nat):Int)=0 from rfl,List.drop_zero] at k5 k6
 have w5:wr .i64 (5+1)=6:=by decide
 have w6:wr .i64 (6+1)=7:=by decide
 rw [crawlwayref60_All.l3.eq_def,if_pos (by decide),k5,bindM_some,w5,crawlwayref60_All.l3.eq_def,if_pos (by decide),k6,bindM_some,w6,crawlwayref60_All.l3.eq_def,if_neg (by decide)]
theorem allRight{c:S_api_Conf}(hc:Mod c)(hr:rightC c=true):∀ p∈c.f_Peers,∀ q∈p.f_Allowed,rgt q=true:=fun p hp q hq=>by
 have hm:q∈(ents 0 c.f_Peers).map S_api_Entry.f_P:=by rw [ents_P];exact List.mem_flatMap.2 ⟨p,hp,hq⟩
 obtain ⟨e,he,rfl⟩:=List.mem_map.1 hm
 exact (right_facts hc hr).1 e he
def allL(c:S_api_Conf)(TP:List Px):List S_lint_Odd :=
 ((((((if decide (c.f_Private=zKey)=true then [mkO 1 (-1) zPx] else [])++gat (one 2 (idleB c)) 0 c.f_Peers.length)++gat (one 3 (dblB c)) 0 c.f_Peers.length)++gat (one 4 (shaB c)) 0 c.f_Peers.length)++oddsE 5 (gS TP) (ents 0 c.f_Peers))++oddsE 6 (gH (ents 0 c.f_Peers)) (ents 0 c.f_Peers))
theorem all_code{c:S_api_Conf}(hc:Mod c):(rightC c=false∧lint_All c=some []∧crawlwayref60_All c=some [])∨(rightC c=true∧∃ TP,lint_All c=some (allL c TP)∧crawlwayref60_All c=some (allL c TP)):=by
 obtain ⟨r1,r2⟩:=right_code hc
 obtain ⟨e1,e2⟩:=ent_code hc
 unfold lint_All crawlwayref60_All
 rw [r1,r2,bindM_some,bindM_some]
 cases hr:rightC c with
 | false=>exact .inl ⟨rfl,rfl,rfl⟩
 | true =>
  right
  refine ⟨rfl,?_⟩
  obtain ⟨f1,f2,f3⟩:=right_facts hc hr
  have hlen:=hc.len
  have hE:∀ e∈ents 0 c.f_Peers,IsPf e.f_P:=fun e he=>(right_at _ (ents_ok hc e he)).2.2 (f1 e he)
  obtain ⟨TH,t1,t2,t3,t4⟩:=thin_ex (ents 0 c.f_Peers) (ents_ok hc) (by omega)
  obtain ⟨is5,is6⟩:=is_code t2 (by omega) hE (by omega)
  refine ⟨TH.map S_api_Entry.f_P,?_⟩
  have hnt:¬ (!true)=true:=by decide
  have z1:=gat_len (one 2 (idleB c)) (one_len _ _) c.f_Peers.length 0
  have z2:=gat_len (one 3 (dblB c)) (one_len _ _) c.f_Peers.length 0
  have z3:=gat_len (one 4 (shaB c)) (one_len _ _) c.f_Peers.length 0
  have z4:=oddsE_len 5 (gS (TH.map S_api_Entry.f_P)) (ents 0 c.f_Peers)
  rw [if_neg hnt,if_neg hnt,e1,e2,bindM_some,keys_zero,bindM_some,ref_zero,bindM_some]
  unfold allL
  have hq:∀ f:S_lint_finder→Option (List S_lint_Odd),((if decide (c.f_Private=zKey)=true then (if (([]:List S_lint_Odd).length+1)*48≤140737488355328 then some (fS c (ents 0 c.f_Peers) (([]:List S_lint_Odd)++[lint_All.e0])) else none) else some (fS c (ents 0 c.f_Peers) []))>>=f)=f (fS c (ents 0 c.f_Peers) (if decide (c.f_Private=zKey)=true then [mkO 1 (-1) zPx] else [])):=by
   intro f
   cases decide (c.f_Private=zKey)<;>rfl
  have hs:∀ f:List S_lint_Odd→Option (List S_lint_Odd),((if decide (c.f_Private=zKey)=true then (if (([]:List S_lint_Odd).length+1)*48≤140737488355328 then some (([]:List S_lint_Odd)++[crawlwayref60_All.e0]) else none) else some ([]:List S_lint_Odd))>>=f)=f (if decide (c.f_Private=zKey)=true then [mkO 1 (-1) zPx] else []):=by
   intro f
   cases decide (c.f_Private=zKey)<;>rfl
  have hl0:(if decide (c.f_Private=zKey)=true then [mkO 1 (-1) zPx] else ([]:List S_lint_Odd)).length≤1:=by split<;>simp
  generalize hA:(if decide (c.f_Private=zKey)=true then [mkO 1 (-1) zPx] else ([]:List S_lint_Odd))=A at *
  have k1:=idle_l0 c (ents 0 c.f_Peers) A hlen c.f_Peers.length 0 A (by omega) (by omega)
  have k2:=dbl_l1 c (ents 0 c.f_Peers) (A++gat (one 2 (idleB c)) 0 c.f_Peers.length) hlen c.f_Peers.length 0 (A++gat (one 2 (idleB c)) 0 c.f_Peers.length) (by omega) (by rw [List.length_append];omega)
  have k3:=sha_l2 c (ents 0 c.f_Peers) ((A++gat (one 2 (idleB c)) 0 c.f_Peers.length)++gat (one 3 (dblB c)) 0 c.f_Peers.length) hlen c.f_Peers.length 0 ((A++gat (one 2 (idleB c)) 0 c.f_Peers.length)++gat (one 3 (dblB c)) 0 c.f_Peers.length) (by omega) (by rw [List.length_append,List.length_append];omega)
  have k4:=map_l3 TH (by omega) t3 TH.length 0 (by omega)
  have k5:=spo_l4 hc (ents 0 c.f_Peers) (((A++gat (one 2 (idleB c)) 0 c.f_Peers.length)++gat (one 3 (dblB c)) 0 c.f_Peers.length)++gat (one 4 (shaB c)) 0 c.f_Peers.length) (TH.map S_api_Entry.f_P) c.f_Peers.length 0 (((A++gat (one 2 (idleB c)) 0 c.f_Peers.length)++gat (one 3 (dblB c)) 0 c.f_Peers.length)++gat (one 4 (shaB c)) 0 c.f_Peers.length) (by omega) (by rw [List.length_append,List.length_append,List.length_append];omega)
  have k6:=hio_l6 hc (ents 0 c.f_Peers) hE (by omega) (((((A++gat (one 2 (idleB c)) 0 c.f_Peers.length)++gat (one 3 (dblB c)) 0 c.f_Peers.length)++gat (one 4 (shaB c)) 0 c.f_Peers.length))++oddsE 5 (gS (TH.map S_api_Entry.f_P)) (ents 0 c.f_Peers)) (fun p hp q hq=>(right_at q (okAllowed (hc.ok p hp) q hq)).2.2 (allRight hc hr p hp q hq)) c.f_Peers.length 0 (((((A++gat (one 2 (idleB c)) 0 c.f_Peers.length)++gat (one 3 (dblB c)) 0 c.f_Peers.length)++gat (one 4 (shaB c)) 0 c.f_Peers.length))++oddsE 5 (gS (TH.map S_api_Entry.f_P)) (ents 0 c.f_Peers)) (by omega) (by rw [List.length_append,List.length_append,List.length_append,List.length_append];omega)
  have q1:=ridle_l0 c hlen c.f_Peers.length 0 A (by omega) (by omega)
  have q2:=rdbl_l1 c hlen c.f_Peers.length 0 (A++gat (one 2 (idleB c)) 0 c.f_Peers.length) (by omega) (by rw [List.length_append];omega)
  have q3:=rsha_l2 c hlen c.f_Peers.length 0 ((A++gat (one 2 (idleB c)) 0 c.f_Peers.length)++gat (one 3 (dblB c)) 0 c.f_Peers.length) (by omega) (by rw [List.length_append,List.length_append];omega)
  have q4:=rkinds_l3 (ents 0 c.f_Peers) _ _ is5 is6 (by omega) (((A++gat (one 2 (idleB c)) 0 c.f_Peers.length)++gat (one 3 (dblB c)) 0 c.f_Peers.length)++gat (one 4 (shaB c)) 0 c.f_Peers.length) (by rw [List.length_append,List.length_append,List.length_append];omega)
  rw [show ((0:Nat):Int)=0 from rfl] at k1 k2 k3 k4 k5 k6 q1 q2 q3
  rw [List.drop_zero] at k5 k6
  have k4:lint_All.l3 TH 0 ([]:List (S_api_Prefix×Bool))=_:=k4
  constructor
  ·refine (hq _).trans ?_
   show (lint_All.l0 (fS c (ents 0 c.f_Peers) A) 0 (fS c (ents 0 c.f_Peers) A)>>=_)=_
   rw [k1,bindM_some,k2,bindM_some,k3,bindM_some]
   show (flat_Thin (ents 0 c.f_Peers)>>=_)=_
   rw [t1,bindM_some,k4,bindM_some,k5,bindM_some,k6,bindM_some];rfl
  ·refine (hs _).trans ?_
   show (crawlwayref60_All.l0 c A 0>>=_)=_
   rw [q1,bindM_some,q2,bindM_some,q3,bindM_some,bindM_some,q4,bindM_some]
end Go.Proofs.YtahlbjmafceoeaaGreatDoor.Lint
set_option maxRecDepth 20000
namespace Go.Proofs.YtahlbjmafceoeaaGreatDoor.Lint
open E Go.RowKit Adr Cid Agg
theorem gat_mem(f:Nat→List S_lint_Odd)(o:S_lint_Odd):∀ (k i:Nat),o∈gat f i k→∃ j,o∈f j
 | 0,_,h=>by cases h
 | k+1,i,h=>by
  rw [gat_succ] at h
  rcases List.mem_append.1 h with h | h
  ·exact ⟨i,h⟩
  ·exact gat_mem f o k (i+1) h
theorem one_ok{kd:Int}{b:Nat→Bool}{i:Nat}{o:S_lint_Odd}(h:o∈one kd b i):o=mkO kd (i:Int) zPx:=by
 unfold one at h
 split at h
 ·exact List.mem_singleton.1 h
 ·cases h
theorem odds_mem{kd:Int}{g:Px→Bool}{L:List S_api_Entry}{o:S_lint_Odd}(h:o∈oddsE kd g L):∃ e∈L,g e.f_P=true∧o=mkO kd e.f_Owner e.f_P:=by
 unfold oddsE at h
 obtain ⟨e,he,rfl⟩:=List.mem_map.1 h
 obtain ⟨h1,h2⟩:=List.mem_filter.1 he
 exact ⟨e,h1,h2,rfl⟩
theorem all_mem{c:S_api_Conf}{TP:List Px}{o:S_lint_Odd}(h:o∈allL c TP):(o.f_P=zPx∧o.f_Kind≠6)∨(∃ e∈ents 0 c.f_Peers,o.f_P=e.f_P∧o.f_Kind=5)∨∃ e∈ents 0 c.f_Peers,o.f_P=e.f_P∧gH (ents 0 c.f_Peers) e.f_P=true∧o.f_Kind=6:=by
 unfold allL at h
 rcases List.mem_append.1 h with h | h
 ·rcases List.mem_append.1 h with h | h
  ·left
   rcases List.mem_append.1 h with h | h
   ·rcases List.mem_append.1 h with h | h
    ·rcases List.mem_append.1 h with h | h
     ·split at h
      ·rw [List.mem_singleton.1 h];exact ⟨rfl,by decide⟩
      ·cases h
     ·obtain ⟨j,hj⟩:=gat_mem _ _ _ _ h
      rw [one_ok hj];exact ⟨rfl,by show (2:Int)≠6;decide⟩
    ·obtain ⟨j,hj⟩:=gat_mem _ _ _ _ h
     rw [one_ok hj];exact ⟨rfl,by show (3:Int)≠6;decide⟩
   ·obtain ⟨j,hj⟩:=gat_mem _ _ _ _ h
    rw [one_ok hj];exact ⟨rfl,by show (4:Int)≠6;decide⟩
  ·obtain ⟨e,h1,h2,rfl⟩:=odds_mem h
   exact .inr (.inl ⟨e,h1,rfl,rfl⟩)
 ·obtain ⟨e,h1,h2,rfl⟩:=odds_mem h
  exact .inr (.inr ⟨e,h1,rfl,h2,rfl⟩)
theorem all_len{c:S_api_Conf}(hc:Mod c)(hr:rightC c=true)(TP:List Px):(allL c TP).length≤300:=by
 have f3:=(right_facts hc hr).2.2
 have hlen:=hc.len
 have z1:=gat_len (one 2 (idleB c)) (one_len _ _) c.f_Peers.length 0
 have z2:=gat_len (one 3 (dblB c)) (one_len _ _) c.f_Peers.length 0
 have z3:=gat_len (one 4 (shaB c)) (one_len _ _) c.f_Peers.length 0
 have z4:=oddsE_len 5 (gS TP) (ents 0 c.f_Peers)
 have z5:=oddsE_len 6 (gH (ents 0 c.f_Peers)) (ents 0 c.f_Peers)
 have z6:(if decide (c.f_Private=zKey)=true then [mkO 1 (-1) zPx] else ([]:List S_lint_Odd)).length≤1:=by split<;>simp
 unfold allL
 simp only [List.length_append]
 omega
theorem mod_of{c:S_api_Conf}(w0:ok_api_Conf c)(h:c.f_Peers.length≤20∧∀ p∈c.f_Peers,p.f_Allowed.length≤80):Mod c:=⟨w0.2.2.2,h.1,h.2⟩
end Go.Proofs.YtahlbjmafceoeaaGreatDoor.Lint
namespace Go.Proofs.YtahlbjmafceoeaaGreatDoor
open E Go.RowKit _root_.Go.Proofs.Tryz
def crawlwaylaw60_LintHides.l0(t14:List S_api_Entry)(i20:List S_api_Entry)(i21:Int):Option (List S_api_Entry) :=
 if (decide (i21<(t14.length:Int)))=true then (if (0:Int)≤i21∧i21<(t14.length:Int) then crawlwayref25_Put i20 (lget t14 i21)>>=fun t32=>crawlwaylaw60_LintHides.l0 t14 t32 (wr .i64 (i21+1)) else none) else (some i20)
 partial_fixpoint
def crawlwaylaw60_LintHides.l1(x1:S_api_Addr)(t11:List S_lint_Odd)(q19:List S_api_Entry)(t35:S_api_Entry×Bool)(i38:Int):Option (Ctl (Bool) (Unit)) :=
 if (decide (i38<(t11.length:Int)))=true then (if (0:Int)≤i38∧i38<(t11.length:Int) then if ((lget t11 i38).f_Kind != 6)=true then (crawlwaylaw60_LintHides.l1 x1 t11 q19 t35 (wr .i64 (i38+1))) else (if (0:Int)≤i38∧i38<(t11.length:Int) then crawlwayref25_Drop q19 ((lget t11 i38).f_P)>>=fun t50=>crawlwayref25_Find t50 x1>>=fun t53=>if (t35.2 != t53.2)=true then (some (.ret false)) else (if (!decide (t35.1=t53.1))=true then (some (.ret false)) else (crawlwaylaw60_LintHides.l1 x1 t11 q19 t35 (wr .i64 (i38+1)))) else none) else none) else (some (.nx ()))
 partial_fixpoint
def crawlwaylaw60_LintHides(x0:S_api_Conf)(x1:S_api_Addr):Option (Bool) :=
 (crawlwayref34_Large x0>>=fun t5=>if t5=true then (crawlwaylaw60_alive>>=fun t7=>some (.ret t7)) else (crawlwayref34_Right x0>>=fun t8=>if (!t8)=true then (crawlwaylaw60_alive>>=fun t10=>some (.ret t10)) else (some (.nx ()))):Option (Ctl (Bool) (Unit)))>>=fun q3=>match q3 with | .ret r'=>some r' | .nx sq3=>(lint_All x0>>=fun t11=>crawlwayref60_Entries x0>>=fun t14=>crawlwaylaw60_LintHides.l0 t14 ([]:List S_api_Entry) 0>>=fun q19=>crawlwayref25_Find q19 x1>>=fun t35=>crawlwaylaw60_LintHides.l1 x1 t11 q19 t35 0>>=fun q37=>match q37 with | .ret r'=>some r' | .nx sq37=>(crawlwaylaw60_alive>>=fun t58=>some t58))
set_option maxHeartbeats 3200000 in
theorem crawlwaylaw60_LintHides_ok(g0_:G_api_Conf)(x0:S_api_Conf)(x1:S_api_Addr)(r:Bool)(hF:crawlwaylaw60_LintHides x0 x1=some r)(w:World)(hn0:N_api_Conf w (g0_,x0))(hg_lint_words:GV_lint_words w)(hg_strconv_uint64pow10:GV_strconv_uint64pow10 w) :
    Calls Tryz.prog 5 #[.agg (Cd.cs c_api_Conf (g0_,x0)).toArray,.agg (Cd.cs c_api_Addr x1).toArray] w (fun e w'=>e=.returned (.bool r)∧Below w.heap.size w w'):=by
 unfold crawlwaylaw60_LintHides at hF
 refine ce (l:=[.agg (Cd.cs c_api_Conf (g0_,x0)).toArray,.agg (Cd.cs c_api_Addr x1).toArray]) func5 rfl rfl ?_
 refine at_start ?_
 refine sr ?_
 refine at_box (cs:=Cd.cs c_api_Conf (g0_,x0)) rfl rfl rfl ?_
 intro b1
 refine at_box (cs:=Cd.cs c_api_Addr x1) rfl rfl rfl ?_
 intro b2
 refine aa (nwq [3,2] ?_)
 obtain ⟨q3,hq3,hF⟩:=bM hF
 refine at_join (q:=q3) (r:=r) (A:=fun (_:Unit) Y=>At 74 [(2,.pointer (some ⟨b1,0,none⟩)),(3,.pointer (some ⟨b2,0,none⟩))] (Wd w [cellsE b2 (Cd.cs c_api_Addr x1) 36,cellsE b1 (Cd.cs c_api_Conf (g0_,x0)) 27]) Y) ?_ ?_
 ·intro Y K
  replace hF:=hq3
  refine sr ?_
  refine aw (r_load_aggc (c:=c_api_Conf) (z:=(g0_,x0)) isAgg27 sizeOf27 rfl (lens_cell (.s .z) lw)) ?_
  obtain ⟨t5,ht5,hF⟩:=bM hF
  refine cB func6 rfl (fun w hw=>crawlwayref34_Large_ok _ _ _ ht5 w (N_api_Conf.below hn0 hw.below)) ?_
  refine am ?_
  obtain ⟨h6,hF⟩|⟨h6,hF⟩:=oi hF
  ·refine fx 16 h6 ?_
   refine gn ?_
   refine gn ?_
   refine gn ?_
   refine aw xp (nwq [20,3,2] ?_)
   refine ct rfl ?_
   refine sr ?_
   obtain ⟨t7,ht7,hF⟩:=bM hF
   refine cB func7 rfl (fun w hw=>crawlwaylaw60_alive_ok  _ ht7 w (hg_lint_words.on hw.below) (hg_strconv_uint64pow10.on hw.below)) ?_
   refine aa (qn (dz (dz (wq [4] ?_))))
   refine tn (rt ?_)
   obtain rfl:=os hF
   subst K
   exact r1 wb
  refine fx 16 h6 ?_
  refine gy ?_
  refine aw (r_load_aggc (c:=c_api_Conf) (z:=(g0_,x0)) isAgg27 sizeOf27 rfl (lens_cell (.s .z) lw)) ?_
  refine gy ?_
  obtain ⟨t8,ht8,hF⟩:=bM hF
  refine cB func13 rfl (fun w hw=>crawlwayref34_Right_ok _ _ _ ht8 w (N_api_Conf.below hn0 hw.below)) ?_
  refine gy ?_
  refine aw (r_not rfl) ?_
  refine aw xp (nwq [20,3,2] ?_)
  obtain ⟨h9,hF⟩|⟨h9,hF⟩:=oi hF
  ·refine ct h9 ?_
   refine sr ?_
   obtain ⟨t10,ht10,hF⟩:=bM hF
   refine cB func7 rfl (fun w hw=>crawlwaylaw60_alive_ok  _ ht10 w (hg_lint_words.on hw.below) (hg_strconv_uint64pow10.on hw.below)) ?_
   refine aa (qn (dz (dz (wq [4] ?_))))
   refine tn (rt ?_)
   obtain rfl:=os hF
   subst K
   exact r1 wb
  refine cf h9 ?_
  refine sn ?_
  obtain rfl:=os hF
  exact at_weak_k K ⟨rfl,rfl,trivial⟩
 cases q3 with
 | ret r' =>
  exact os hF
 | nx sq3 =>
  skip
  refine sr ?_
  refine aw (r_load_aggc (c:=c_api_Conf) (z:=(g0_,x0)) isAgg27 sizeOf27 rfl (lens_cell (.s .z) lw)) ?_
  obtain ⟨t11,ht11,hF⟩:=bM hF
  refine at_callO (c:=c_lint_Odd) (e:=40) (ys:=t11) (V:=fun p cap=>.slice p t11.length cap) func8 rfl (by kernel_rfl) rfl rfl (fun w hw=>lint_All_ok _ _ _ ht11 w (N_api_Conf.below hn0 hw.below)) ?_
  intro p12 c13
  refine aa (ns (aa (nt (qs (sr ?_)))))
  refine aw (r_load_aggc (c:=c_api_Conf) (z:=(g0_,x0)) isAgg27 sizeOf27 rfl (lens_cell (.s (.s .z)) lw)) ?_
  obtain ⟨t14,ht14,hF⟩:=bM hF
  refine at_callO (c:=c_api_Entry) (e:=49) (ys:=t14) (V:=fun p cap=>.slice p t14.length cap) func14 rfl (by kernel_rfl) rfl rfl (fun w hw=>crawlwayref60_Entries_ok _ _ _ ht14 w (N_api_Conf.below hn0 hw.below)) ?_
  intro p15 c16
  refine aw (r_len_sl underlying46 rfl) ?_
  refine am (qn ?_)
  refine at_drop (H:=_) (.s (.s (.s .z))) ?_
  refine wq [27,26,25,6,5,3] ?_
  refine tn ?_
  refine qb ?_
  refine at_own_nil c_api_Entry 49 ?_
  obtain ⟨q19,hq19,hF⟩:=bM hF
  refine wq [27,26,25,6,5,3] ?_
  refine at_loop_n (B:=0) (A:=fun Y=>∀ (p24:Option Addr) (c25:Nat),At 74 [(3,.pointer (some ⟨b2,0,none⟩)),(5,.slice p12 t11.length c13),(6,.slice p24 q19.length c25)] (Wd w [rowE c_api_Entry 49 p24 c25 q19,rowE c_lint_Odd 40 p12 c13 t11,cellsE b2 (Cd.cs c_api_Addr x1) 36]) Y) ?_ ?_
  ·intro K
   refine crawlwaylaw60_LintHides.l0.partial_correctness t14 (motive:=fun i20 i21 x=>KN (fun Y=>∀ (p24:Option Addr) (c25:Nat),At 74 [(3,.pointer (some ⟨b2,0,none⟩)),(5,.slice p12 t11.length c13),(6,.slice p24 x.length c25)] (Wd w [rowE c_api_Entry 49 p24 c25 x,rowE c_lint_Odd 40 p12 c13 t11,cellsE b2 (Cd.cs c_api_Addr x1) 36]) Y) _ 0→Round (fun Y=>∀ (p22:Option Addr) (c23:Nat),At 74 [(3,.pointer (some ⟨b2,0,none⟩)),(5,.slice p12 t11.length c13),(6,.slice p22 i20.length c23),(25,.slice p15 t14.length c16),(26,.int .i64 (t14.length:Int)),(27,.int .i64 i21)] (Wd w [rowE c_api_Entry 49 p22 c23 i20,rowE c_api_Entry 49 p15 c16 t14,rowE c_lint_Odd 40 p12 c13 t11,cellsE b2 (Cd.cs c_api_Addr x1) 36]) Y) _ _ _) ?_ _ _ _ hq19 K none 0
   ·clear K hF
    intro g ih i20 i21 x hF K p22 c23
    refine at_round ?_
    refine sr (aw xl (nwq [28,27,26,25,6,5,3] ?_))
    refine qs ?_
    obtain ⟨h26,hF⟩|⟨h26,hF⟩:=oi hF
    ·refine ct h26 ?_
     refine sn (qs ?_)
     refine qb ?_
     refine sr ?_
     obtain ⟨h27,hF⟩:=gd hF
     refine at_pure (φ:=∃ b o,p15=some ⟨b,o,none⟩) (fun _ hw=>row_ptr (hw.own (.s .z)).row h27) ?_
     rintro ⟨b29,o30,hp28⟩
     refine aw (r_idx underlying46 sizeOf49 rfl rfl h27 hp28) ?_
     refine aw (r_load_aggc (c:=c_api_Entry) (z:=lget t14 i21) isAgg49 sizeOf49 rfl (fun w1 hw=>row_cell (W:=fun w1=>w1=_) (fun w1 h=>by subst h;exact Below.refl _ _) (hw.own (.s .z)).row h27 hp28 _ rfl)) ?_
     refine al (cs:=Cd.cs c_api_Entry zv12) zeroValue49 ?_
     intro b31
     refine at_store (c:=c_api_Entry) (z:=lget t14 i21) .z lw sizeOf49 rfl rfl rfl ?_
     refine nt (qr (am ?_))
     refine aw (r_load_aggc (c:=c_api_Entry) (z:=lget t14 i21) isAgg49 sizeOf49 rfl (lens_cell .z lw)) ?_
     obtain ⟨t32,ht32,hF⟩:=bM hF
     refine at_callO (c:=c_api_Entry) (e:=49) (ys:=t32) (V:=fun p cap=>.slice p t32.length cap) func15 rfl (by kernel_rfl) rfl rfl (fun w hw=>crawlwayref25_Put_ok _ _ _ _ _ ht32 w (hw.own (.s .z)).row) ?_
     intro p33 c34
     refine aa (qn ?_)
     refine at_drop (H:=_) (.s .z) ?_
     refine at_drop (H:=_) (.s .z) ?_
     refine wq [27,26,25,6,5,3] ?_
     refine bm ?_
     refine qr (aw xa (am (nwq [27,26,25,6,5,3] ?_)))
     exact at_weak_k (ih _ _ _ hF K p33 c34) ⟨rfl,rfl,rfl,rfl,rfl,rfl,trivial⟩
    ·refine cf h26 ?_
     refine at_exit ?_
     refine te (te ?_)
     refine at_drop (H:=_) (.s .z) ?_
     obtain rfl:=os hF
     exact at_weak_k (K p22 c23) ⟨rfl,rfl,rfl,trivial⟩
  ·skip
   intro p24 c25
   refine at_blk_same ?_
   refine tn (sr (am ?_))
   refine aw (r_load_aggc (c:=c_api_Addr) (z:=x1) isAgg36 sizeOf36 rfl (lens_cell (.s (.s .z)) lw)) ?_
   obtain ⟨t35,ht35,hF⟩:=bM hF
   refine cB func16 rfl (fun w hw=>crawlwayref25_Find_ok _ _ _ _ _ ht35 w (hw.own .z).row) ?_
   refine am ?_
   refine aw xe (aw xe ?_)
   refine al (cs:=Cd.cs c_api_Entry zv12) zeroValue49 ?_
   intro b36
   refine at_store (c:=c_api_Entry) (z:=t35.1) .z lw sizeOf49 rfl rfl rfl ?_
   refine aa (nt (qs (sr (aa (nwq [11,10,9,6,5,3] ?_)))))
   refine qb ?_
   obtain ⟨q37,hq37,hF⟩:=bM hF
   refine wq [11,10,9,6,5,3] ?_
   refine at_loop_r (B:=2) (r:=r) (q:=q37) (A:=fun (_:Unit) Y=>At 74 [] (Wd w []) Y) ?_ ?_
   ·intro K
    refine crawlwaylaw60_LintHides.l1.partial_correctness x1 t11 q19 t35 (motive:=fun i38 x=>KR (fun (_:Unit) Y=>At 74 [] (Wd w []) Y) _ 2 r x→Round (fun Y=>At 74 [(3,.pointer (some ⟨b2,0,none⟩)),(5,.slice p12 t11.length c13),(6,.slice p24 q19.length c25),(9,.pointer (some ⟨b36,0,none⟩)),(10,.bool t35.2),(11,.int .i64 i38)] (Wd w [cellsE b36 (Cd.cs c_api_Entry t35.1) 49,rowE c_api_Entry 49 p24 c25 q19,rowE c_lint_Odd 40 p12 c13 t11,cellsE b2 (Cd.cs c_api_Addr x1) 36]) Y) _ _ _) ?_ _ _ hq37 K
    ·clear K hF
     intro g ih i38 x hF K
     refine at_round ?_
     refine qs (sr (am (am ?_)))
     refine aw (r_len_sl underlying30 rfl) ?_
     refine aw xl (nwq [44,11,10,9,6,5,3] ?_)
     obtain ⟨h39,hF⟩|⟨h39,hF⟩:=oi hF
     ·refine ct h39 ?_
      refine sn (qs ?_)
      refine qb ?_
      refine qs (sr (am (am ?_)))
      obtain ⟨h40,hF⟩:=gd hF
      refine at_pure (φ:=∃ b o,p12=some ⟨b,o,none⟩) (fun _ hw=>row_ptr (hw.own (.s (.s .z))).row h40) ?_
      rintro ⟨b42,o43,hp41⟩
      refine aw (r_idx underlying30 sizeOf40 rfl rfl h40 hp41) ?_
      refine fa 0 underlying40 rfl sizeOf3 ?_
      refine aw (r_load_cell isAgg3 rfl (fun w1 hw=>row_lens0 (y:=(lget t11 i38).f_Kind) (W:=fun w1=>w1=_) (fun w1 h=>by subst h;exact Below.refl _ _) (hw.own (.s (.s .z))).row h40 hp41 (Lens.comp lw (fun z=>{ (lget t11 i38) with f_Kind:=z }) (c_lint_Odd_f_Kind (lget t11 i38))) rfl _ rfl)) ?_
      refine aw xn (nwq [52,11,10,9,6,5,3] ?_)
      obtain ⟨h44,hF⟩|⟨h44,hF⟩:=oi hF
      ·refine ct h44 ?_
       refine at_exit ?_
       refine te (at_blk_same (tn ?_))
       refine qr (am (aw xa (aa (nwq [11,10,9,6,5,3] ?_))))
       exact at_weak_k (ih _ _ hF K) ⟨rfl,rfl,rfl,rfl,rfl,rfl,trivial⟩
      ·refine cf h44 ?_
       refine sn (qs (wq [11,10,9,6,5,3] ?_))
       refine at_optPush (b:=0) (cs:=(Cd.cs c_api_Entry zv12)) (t:=49) ?_
       obtain ⟨h46,hF⟩:=gd hF
       refine at_pure (φ:=∃ b o,p12=some ⟨b,o,none⟩) (fun _ hw=>row_ptr (hw.own (.s (.s (.s .z)))).row h46) ?_
       rintro ⟨b48,o49,hp47⟩
       obtain ⟨t50,ht50,hF⟩:=bM hF
       obtain ⟨t53,ht53,hF⟩:=bM hF
       refine at_invF [.q 54 (fun g55=>.slice p24 q19.length c25) [] 0 0,.q 55 (fun g55=>.slice p12 t11.length c13) [] 0 0,.q 56 (fun g55=>.int .i64 i38) [] 0 0,.q 57 (fun g55=>.pointer (some ⟨b48,o49+Int.toNat i38*20,none⟩)) [1,2] 0 0,.q 58 (fun g55=>.pointer (some ⟨b48,o49+Int.toNat i38*20+2,none⟩)) [3] 0 0,.q 59 (fun g55=>.agg (Cd.cs c_api_Prefix ((lget t11 i38).f_P)).toArray) [4] 0 0,.al 0 60 (fun g55=>.slice ((g55 0).2.1) t50.length ((g55 0).2.2.1)) [0,5],.q 61 (fun g55=>.agg (Cd.cs c_api_Addr x1).toArray) [] 0 1,.q 62 (fun g55=>.tuple #[.agg (Cd.cs c_api_Entry t53.1).toArray,.bool t53.2]) [6,7] 1 1,.q 53 (fun g55=>.tuple #[.agg (Cd.cs c_api_Entry t53.1).toArray,.bool t53.2]) [8] 1 1,.q 63 (fun g55=>.agg (Cd.cs c_api_Entry t53.1).toArray) [9] 1 1,.q 64 (fun g55=>.bool t53.2) [9] 1 2,.q 12 (fun g55=>.pointer (some ⟨((g55 14).1),0,none⟩)) [] 0 1,.st 1 none [12,10],.q 13 (fun g55=>.bool t53.2) [11] 2 2] (fun g55 s=>match s with | 0=>(Wd w [optE ((g55 14).2.2.1) ((g55 14).1) (Cd.cs c_api_Entry zv12) 49,cellsE b36 (Cd.cs c_api_Entry t35.1) 49,rowE c_api_Entry 49 p24 c25 q19,rowE c_lint_Odd 40 p12 c13 t11,cellsE b2 (Cd.cs c_api_Addr x1) 36]) | 1=>(Wd w [rowE c_api_Entry 49 ((g55 0).2.1) ((g55 0).2.2.1) t50,optE ((g55 14).2.2.1) ((g55 14).1) (Cd.cs c_api_Entry zv12) 49,cellsE b36 (Cd.cs c_api_Entry t35.1) 49,rowE c_api_Entry 49 p24 c25 q19,rowE c_lint_Odd 40 p12 c13 t11,cellsE b2 (Cd.cs c_api_Addr x1) 36]) | _=>(Wd w [rowE c_api_Entry 49 ((g55 0).2.1) ((g55 0).2.2.1) t50,cellsE ((g55 14).1) (Cd.cs c_api_Entry t53.1) 49,cellsE b36 (Cd.cs c_api_Entry t35.1) 49,rowE c_api_Entry 49 p24 c25 q19,rowE c_lint_Odd 40 p12 c13 t11,cellsE b2 (Cd.cs c_api_Addr x1) 36])) 2 [false,false,false,false,false,false,false,false,false,false,false,false,true,false,false] [[],[],[],[],[],[],[],[],[],[],[],[],[],[12],[12]] (by kernel_rfl) (by kernel_rfl) (by kernel_rfl) (by kernel_rfl) (by kernel_rfl) ⟨fun _ _ _ _ _=>rfl,fun _ _ _ _ _=>rfl,fun _ _ _ _ _=>rfl,fun _ _ _ _ _=>rfl,fun _ _ _ _ _=>rfl,fun _ _ _ _ _=>rfl,fun g55 g2 h h2 _=>by show (.slice ((g55 0).2.1) t50.length ((g55 0).2.2.1):Value)=.slice ((g2 0).2.1) t50.length ((g2 0).2.2.1);rw [h 0 (show 0<1 by decide)],fun _ _ _ _ _=>rfl,fun _ _ _ _ _=>rfl,fun _ _ _ _ _=>rfl,fun _ _ _ _ _=>rfl,fun _ _ _ _ _=>rfl,fun g55 g2 _ _ h3=>by show (.pointer (some ⟨((g55 14).1),0,none⟩):Value)=.pointer (some ⟨((g2 14).1),0,none⟩);rw [h3 rfl],fun _ _ _ _ _=>rfl,fun _ _ _ _ _=>rfl,trivial⟩ (by kernel_rfl) (by kernel_rfl) (fun w_ h=>⟨fun _=>g3 0 none 0 none w_,fun _=>Nat.zero_ne_one,h.drew⟩) ⟨?_,?_,?_,?_,?_,?_,?_,?_,?_,?_,?_,?_,?_,?_,?_,trivial⟩ ?_
       ·intro Lx g55 s K hf_ hl hh k
        show At 74 ((3,_)::(5,_)::(6,_)::(9,_)::(10,_)::(11,_)::Lx) _ _
        refine am ?_
        exact at_nil k
       ·intro Lx g55 s K hf_ hl hh k
        show At 74 ((3,_)::(5,_)::(6,_)::(9,_)::(10,_)::(11,_)::Lx) _ _
        refine am ?_
        exact at_nil k
       ·intro Lx g55 s K hf_ hl hh k
        show At 74 ((3,_)::(5,_)::(6,_)::(9,_)::(10,_)::(11,_)::Lx) _ _
        refine am ?_
        exact at_nil k
       ·intro Lx g55 s K hf_ hl hh k
        show At 74 ((55,_)::(56,_)::(3,_)::(5,_)::(6,_)::(9,_)::(10,_)::(11,_)::Lx) _ _
        refine aw (r_idx underlying30 sizeOf40 rfl rfl h46 hp47) ?_
        exact at_nil k
       ·intro Lx g55 s K hf_ hl hh k
        show At 74 ((57,_)::(3,_)::(5,_)::(6,_)::(9,_)::(10,_)::(11,_)::Lx) _ _
        refine fa 2 underlying40 rfl sizeOf38 ?_
        exact at_nil k
       ·intro Lx g55 s K hf_ hl hh k
        show At 74 ((58,_)::(3,_)::(5,_)::(6,_)::(9,_)::(10,_)::(11,_)::Lx) _ _
        obtain rfl:s=0:=by omega
        refine aw (r_load_aggc (c:=c_api_Prefix) (z:=(lget t11 i38).f_P) isAgg38 sizeOf38 rfl (fun w1 hw=>row_lens (y:=(lget t11 i38).f_P) (W:=fun w1=>w1=_) (fun w1 h=>by subst h;exact Below.refl _ _) (hw.own (.s (.s (.s .z)))).row h46 hp47 (Lens.comp lw (fun z=>{ (lget t11 i38) with f_P:=z }) (c_lint_Odd_f_P (lget t11 i38))) _ rfl)) ?_
        exact at_nil k
       ·intro Lx g55 K hf_ k
        show At 74 ((54,_)::(59,_)::(3,_)::(5,_)::(6,_)::(9,_)::(10,_)::(11,_)::Lx) _ _
        refine at_callO (c:=c_api_Entry) (e:=49) (ys:=t50) (V:=fun p cap=>.slice p t50.length cap) func17 rfl (by kernel_rfl) rfl rfl (fun w hw=>crawlwayref25_Drop_ok _ _ _ _ _ ht50 w (hw.own (.s (.s .z))).row) ?_
        intro p51 c52
        exact at_nil (k (g3 0 p51 c52 none w))
       ·intro Lx g55 s K hf_ hl hh k
        show At 74 ((3,_)::(5,_)::(6,_)::(9,_)::(10,_)::(11,_)::Lx) _ _
        rcases (by omega:s=0∨s=1) with rfl | rfl
        ·skip
         refine aw (r_load_aggc (c:=c_api_Addr) (z:=x1) isAgg36 sizeOf36 rfl (lens_cell (.s (.s (.s (.s .z)))) lw)) ?_
         exact at_nil k
        ·skip
         refine aw (r_load_aggc (c:=c_api_Addr) (z:=x1) isAgg36 sizeOf36 rfl (lens_cell (.s (.s (.s (.s (.s .z))))) lw)) ?_
         exact at_nil k
       ·intro Lx g55 s K hf_ hl hh k
        show At 74 ((60,_)::(61,_)::(3,_)::(5,_)::(6,_)::(9,_)::(10,_)::(11,_)::Lx) _ _
        obtain rfl:s=1:=by omega
        refine cB func16 rfl (fun w hw=>crawlwayref25_Find_ok _ _ _ _ _ ht53 w (hw.own .z).row) ?_
        exact at_nil k
       ·intro Lx g55 s K hf_ hl hh k
        show At 74 ((62,_)::(3,_)::(5,_)::(6,_)::(9,_)::(10,_)::(11,_)::Lx) _ _
        refine am ?_
        exact at_nil k
       ·intro Lx g55 s K hf_ hl hh k
        show At 74 ((53,_)::(3,_)::(5,_)::(6,_)::(9,_)::(10,_)::(11,_)::Lx) _ _
        refine aw xe ?_
        exact at_nil k
       ·intro Lx g55 s K hf_ hl hh k
        show At 74 ((53,_)::(3,_)::(5,_)::(6,_)::(9,_)::(10,_)::(11,_)::Lx) _ _
        refine aw xe ?_
        exact at_nil k
       ·intro Lx g55 s K hl hf_ k
        show At 74 ((3,_)::(5,_)::(6,_)::(9,_)::(10,_)::(11,_)::Lx) _ _
        rcases (by omega:s=0∨s=1) with rfl | rfl
        ·skip
         refine al (cs:=Cd.cs c_api_Entry zv12) zeroValue49 ?_
         intro b54
         refine at_optNew (fl':=1) .z hf_ rfl ?_
         exact at_nil (k (g3 b54 none 1 none w) rfl)
        ·skip
         refine al (cs:=Cd.cs c_api_Entry zv12) zeroValue49 ?_
         intro b54
         refine at_optNew (fl':=1) (.s .z) hf_ rfl ?_
         exact at_nil (k (g3 b54 none 1 none w) rfl)
       ·intro Lx g55 K hf_ k
        show At 74 ((12,_)::(63,_)::(3,_)::(5,_)::(6,_)::(9,_)::(10,_)::(11,_)::Lx) _ _
        refine at_optIn (.s .z) (hf_ 12 (by decide)) ?_
        refine at_store (c:=c_api_Entry) (z:=t53.1) (.s .z) lw sizeOf49 rfl rfl rfl ?_
        exact at_nil k
       ·intro Lx g55 s K hf_ hl hh k
        show At 74 ((64,_)::(3,_)::(5,_)::(6,_)::(9,_)::(10,_)::(11,_)::Lx) _ _
        refine aa ?_
        exact at_nil k
       intro g55 hf_
       show At 74 [(54,_),(55,_),(56,_),(57,_),(58,_),(59,_),(60,_),(61,_),(62,_),(53,_),(63,_),(64,_),(12,_),(13,_),(3,_),(5,_),(6,_),(9,_),(10,_),(11,_)] _ _
       refine dz (wq [13,12,11,10,9,6,5,3] ?_)
       refine tn (sr (am (am ?_)))
       refine aw (r_bool underlying4 rfl rfl (.inr rfl) rfl) ?_
       refine am ?_
       obtain ⟨h56,hF⟩|⟨h56,hF⟩:=oi hF
       ·refine fx 68 h56 ?_
        refine gn ?_
        refine gn ?_
        refine gn ?_
        refine aw xp (qn (dz (wq [72,11,10,9,6,5,3] ?_)))
        refine tn ?_
        refine ct rfl ?_
        refine sr (aa (qn (dz (dz (dz (dz (wq [4] ?_)))))))
        refine tn (qt ?_)
        refine br (tr (tr (br (tr ?_))))
        obtain rfl:=os hF
        subst K
        exact r1 wb
       ·refine fx 68 h56 ?_
        refine gy ?_
        refine aw (r_load_aggc (c:=c_api_Entry) (z:=t35.1) isAgg49 sizeOf49 rfl (lens_cell (.s .z) lw)) ?_
        refine gy ?_
        refine aw (r_load_aggc (c:=c_api_Entry) (z:=t53.1) isAgg49 sizeOf49 rfl (lens_cell .z lw)) ?_
        refine gy ?_
        refine aw (r_eqagg (c:=c_api_Entry) (a:=t35.1) (b:=t53.1) (eq_api_Entry_49) rfl Tryz.eqGuardType49 rfl rfl (.inr rfl) rfl) ?_
        refine aw xp (qn (dz (wq [72,11,10,9,6,5,3] ?_)))
        refine tn ?_
        obtain ⟨h57,hF⟩|⟨h57,hF⟩:=oi hF
        ·refine ct h57 ?_
         refine sr (aa (qn (dz (dz (dz (dz (wq [4] ?_)))))))
         refine tn (qt ?_)
         refine br (tr (tr (br (tr ?_))))
         obtain rfl:=os hF
         subst K
         exact r1 wb
        ·refine cf h57 ?_
         refine at_skip ?_
         refine bm ?_
         refine qr (am (aw xa (aa (nwq [11,10,9,6,5,3] ?_))))
         exact at_weak_k (ih _ _ hF K) ⟨rfl,rfl,rfl,rfl,rfl,rfl,trivial⟩
     ·refine cf h39 ?_
      refine at_exit ?_
      refine te (te ?_)
      refine dz (dz (dz (dz ?_)))
      obtain rfl:=os hF
      exact at_weak_k K trivial
   ·cases q37 with
    | ret r'=>exact os hF
    | nx sq37 =>
     skip
     refine at_blk_same ?_
     refine tn (sr ?_)
     obtain ⟨t58,ht58,hF⟩:=bM hF
     refine cB func7 rfl (fun w hw=>crawlwaylaw60_alive_ok  _ ht58 w (hg_lint_words.on hw.below) (hg_strconv_uint64pow10.on hw.below)) ?_
     refine aa (nwq [4] ?_)
     refine qt ?_
     have K:=os hF
     subst K
     exact r1 wb
end Go.Proofs.YtahlbjmafceoeaaGreatDoor
set_option maxRecDepth 20000
namespace Go.Proofs.YtahlbjmafceoeaaGreatDoor.Lint
open E Go.RowKit Adr Cid Agg
theorem puts_loop(E:List S_api_Entry)(hE:∀ e∈E,IsE e)(hn:E.length≤1000):∀ (k i:Nat) (O:List S_api_Entry),i+k=E.length→Sorted O→O.length≤i→crawlwaylaw60_LintHides.l0 E O (i:Int)=some ((E.drop i).foldl putE O)
 | 0,i,O,h,hs,ho=>by
  rw [crawlwaylaw60_LintHides.l0.eq_def,decide_eq_false (by omega),if_neg Bool.false_ne_true,List.drop_eq_nil_of_le (by omega)];rfl
 | k+1,i,O,h,hs,ho=>by
  have hi:i<E.length:=by omega
  have hin:(0:Int)≤(i:Int)∧(i:Int)<(E.length:Int):=by omega
  have he:=hE _ (List.getElem_mem hi)
  have hp:crawlwayref25_Put O E[i]=some (putE O E[i]):=put_code O E[i] (by omega) fun x hx=>IsPf.less he (hs.is x hx)
  have hl:=putE_len O E[i]
  rw [crawlwaylaw60_LintHides.l0.eq_def,decide_eq_true hin.2,if_pos rfl,if_pos hin,lget_at hi,hp,bindM_some,wr1 (by omega),puts_loop E hE hn k (i+1) _ (by omega) (hs.put he) (by omega),List.drop_eq_getElem_cons hi,List.foldl_cons]
theorem drop_loop(O:List S_api_Entry)(P:Px)(hn:O.length≤1000):∀ (k i:Nat) (out:List S_api_Entry),i+k=O.length→out.length≤i→crawlwayref25_Drop.l0 O P out (i:Int)=some (out++(O.drop i).filter fun e=>!decide (e.f_P=P))
 | 0,i,out,h,ho=>by
  rw [crawlwayref25_Drop.l0.eq_def,decide_eq_false (by omega),if_neg Bool.false_ne_true,List.drop_eq_nil_of_le (by omega)]
  show _=some (out++[])
  rw [List.append_nil]
 | k+1,i,out,h,ho=>by
  have hi:i<O.length:=by omega
  have hin:(0:Int)≤(i:Int)∧(i:Int)<(O.length:Int):=by omega
  rw [crawlwayref25_Drop.l0.eq_def,decide_eq_true hin.2,if_pos rfl,if_pos hin,lget_at hi,wr1 (by omega),List.drop_eq_getElem_cons hi,List.filter_cons]
  cases hd:decide (O[i].f_P=P) with
  | true =>
   rw [if_neg (by decide),if_neg (by decide)]
   exact drop_loop O P hn k (i+1) out (by omega) (by omega)
  | false =>
   rw [if_pos (by decide),if_pos hin,if_pos (by omega),if_pos (by decide),drop_loop O P hn k (i+1) (out++[O[i]]) (by omega) (by rw [List.length_append,List.length_singleton];omega),List.append_assoc];rfl
theorem drop_code(O:List S_api_Entry)(P:Px)(hn:O.length≤1000):crawlwayref25_Drop O P=some (O.filter fun e=>!decide (e.f_P=P)):=by
 have h:=drop_loop O P hn O.length 0 [] (by omega) (by simp)
 rw [show ((0:Nat):Int)=0 from rfl,List.drop_zero,List.nil_append] at h
 unfold crawlwayref25_Drop
 rw [h];rfl
theorem hid_has{E:List S_api_Entry}(hE:∀ e∈E,IsPf e.f_P)(hn:E.length≤10000){t0:Tr}(ht0:Agg.Good t0)(h:gH E (pf t0)=true){W:Int}{x:Nat}(hx:inP W x t0):∃ e∈E,∃ t:Tr,Agg.Good t∧e.f_P=pf t∧inP W x t∧(pf t).f_Bits>(pf t0).f_Bits:=by
 obtain ⟨S,hS⟩:=res_of (inL E (pf t0)) (okE_of hE _) (by have:=inL_len E (pf t0);omega)
 unfold gH at h
 have h2:=of_decide_eq_true h
 rw [hS.cs] at h2
 obtain ⟨i1,i2,i3,i4⟩:=hS.inv
 have h3:covR (rsOf S)=[pf t0]:=h2
 rw [covR_allT] at h3
 have hm:pf t0∈(allT (rsOf S)).map pf:=by rw [h3];exact List.mem_singleton.2 rfl
 obtain ⟨u,hu,eu⟩:=List.mem_map.1 hm
 have e0:=pf_inj (allT_good i1 u hu) ht0 eu
 subst e0
 obtain ⟨r,hr,hu⟩:=List.mem_flatMap.1 hu
 obtain ⟨p,hp,rfl⟩:=List.mem_map.1 hu
 obtain ⟨x1,x2,x3⟩:=hx
 unfold endT at x3
 simp only at x1 x2 x3
 have hpw:0<2 ^ p.2:=Nat.pow_pos (by omega)
 have hc:=((pcs_cov (i1 r hr)).1.has x).1 ⟨p,hp,x2,by omega⟩
 obtain ⟨t,ht,hin⟩:=(i4 W x).1 ⟨r,hr,x1,hc⟩
 have hmem:=((hS.mem (pf t)).1 (List.mem_map.2 ⟨t,ht,rfl⟩)).1
 unfold inL at hmem
 obtain ⟨e,he,ee⟩:=List.mem_map.1 hmem
 obtain ⟨he1,he2⟩:=List.mem_filter.1 he
 rw [Bool.and_eq_true] at he2
 refine ⟨e,he1,t,hS.good t ht,ee,hin,?_⟩
 rw [←ee]
 exact of_decide_eq_true he2.1
theorem best_drop{T:List En}(t0:Tr)(p:En→Bool)(h:∀ m∈T,m.1=t0→p m=true→∃ m'∈T,p m'=true∧bitsOf m'>bitsOf m)(hu:∀ a∈T,∀ b∈T,p a=true→p b=true→bitsOf a=bitsOf b→a=b):best p (T.filter fun e=>!decide (e.1=t0))=best p T:=by
 cases hb:best p T with
 | none=>exact best_none.2 fun x hx=>best_none.1 hb x (List.mem_filter.1 hx).1
 | some m =>
  obtain ⟨m1,m2,m3⟩:=best_some hb
  have hne:m.1≠t0:=fun e=>by
   obtain ⟨m',a,b,c⟩:=h m m1 e m2
   have:=m3 m' a b
   omega
  have hm:m∈T.filter fun e=>!decide (e.1=t0):=List.mem_filter.2 ⟨m1,by rw [decide_eq_false hne];rfl⟩
  cases hb2:best p (T.filter fun e=>!decide (e.1=t0)) with
  | none =>
   have:=best_none.1 hb2 m hm
   rw [m2] at this;cases this
  | some y =>
   obtain ⟨y1,y2,y3⟩:=best_some hb2
   have y1':=(List.mem_filter.1 y1).1
   have k1:=y3 m hm m2
   have k2:=m3 y y1' y2
   rw [hu y y1' m m1 y2 m2 (by omega)]
theorem hides_loop(a:S_api_Addr)(L:List S_lint_Odd)(O:List S_api_Entry)(r:S_api_Entry×Bool)(hn:L.length≤1000)(hf:∀ o∈L,o.f_Kind=6→∃ O',crawlwayref25_Drop O o.f_P=some O'∧crawlwayref25_Find O' a=some r):∀ (k i:Nat),i+k=L.length→crawlwaylaw60_LintHides.l1 a L O r (i:Int)=some (.nx ())
 | 0,i,h=>by
  rw [crawlwaylaw60_LintHides.l1.eq_def,decide_eq_false (by omega),if_neg Bool.false_ne_true]
 | k+1,i,h=>by
  have hi:i<L.length:=by omega
  have hin:(0:Int)≤(i:Int)∧(i:Int)<(L.length:Int):=by omega
  have ih:=hides_loop a L O r hn hf k (i+1) (by omega)
  rw [crawlwaylaw60_LintHides.l1.eq_def,decide_eq_true hin.2,if_pos rfl,if_pos hin,lget_at hi,wr1 (by omega)]
  by_cases hk:L[i].f_Kind=6
  ·obtain ⟨O',d1,d2⟩:=hf _ (List.getElem_mem hi) hk
   have b1:(r.2 != r.2)=false:=by simp
   have b2:(!decide (r.1=r.1))=false:=by rw [decide_eq_true rfl];rfl
   rw [if_neg (by rw [hk];decide),if_pos hin,d1,bindM_some,d2,bindM_some,b1,if_neg Bool.false_ne_true,b2,if_neg Bool.false_ne_true]
   exact ih
  ·rw [if_pos (by simpa using hk)];exact ih
theorem hides_of{c:S_api_Conf}{a:S_api_Addr}(E:List S_api_Entry)(L:List S_lint_Odd)(hE:∀ e∈E,IsPf e.f_P)(hEn:E.length≤100)(hLn:L.length≤1000)(hL:∀ o∈L,o.f_Kind=6→∃ e∈E,o.f_P=e.f_P∧gH E e.f_P=true)(hnd0:(E.map S_api_Entry.f_P).Nodup)(w1:ok_api_Addr a):∃ O r,crawlwaylaw60_LintHides.l0 E [] 0=some O∧crawlwayref25_Find O a=some r∧crawlwaylaw60_LintHides.l1 a L O r 0=some (.nx ()):=by
 have h0:=puts_loop E hE (by omega) E.length 0 [] (by omega) .nil (by simp)
 rw [show ((0:Nat):Int)=0 from rfl,List.drop_zero] at h0
 obtain ⟨hs,hlen⟩:=Sorted.fold E .nil hE
 have hmem:∀ x,x∈E.foldl putE []↔x∈E:=fun x=>by
  rw [mem_fold,last_nd hnd0];simp
 generalize E.foldl putE []=O at *
 obtain ⟨T,hT,rfl,hnd⟩:=allE hs
 have hTl:T.length≤100:=by rw [List.length_map] at hlen;simp at hlen;omega
 have fin:∀ p:En→Bool,(∀ e∈T,crawlwayref11_Has (pf e.1) a=some (p e))→(∀ x∈T,∀ y∈T,p x=true→p y=true→bitsOf x=bitsOf y→x=y)→(∀ t0:Tr,Agg.Good t0→gH E (pf t0)=true→∀ m∈T,m.1=t0→p m=true→∃ m'∈T,p m'=true∧bitsOf m'>bitsOf m)→∃ O r,crawlwaylaw60_LintHides.l0 E [] 0=some O∧crawlwayref25_Find O a=some r∧crawlwaylaw60_LintHides.l1 a L O r 0=some (.nx ()):=by
  intro p hp hu hh
  refine ⟨_,_,h0,find_code a p T (by omega) hp,hides_loop a L _ _ hLn (fun o ho hk=>?_) L.length 0 (by omega)⟩
  obtain ⟨e,he,e1,e2⟩:=hL o ho hk
  obtain ⟨t0,ht0,et⟩:=hE e he
  rw [e1,et,drop_code _ _ (by rw [List.length_map];omega)]
  refine ⟨_,rfl,?_⟩
  have hfl:((T.map en).filter fun e=>!decide (e.f_P=pf t0))=(T.filter fun e=>!decide (e.1=t0)).map en:=by
   rw [List.filter_map]
   congr 1
   refine List.filter_congr fun y hy=>?_
   show (!decide ((en y).f_P=pf t0))=_
   rw [decide_eq_decide.2 (show (en y).f_P=pf t0↔y.1=t0 from ⟨fun h=>pf_inj (hT y hy) ht0 h,fun h=>congrArg pf h⟩)]
  rw [hfl,find_code a p _ (by have:=List.length_filter_le (fun e:En=>!decide (e.1=t0)) T;omega) (fun y hy=>hp y (List.mem_filter.1 hy).1),best_drop t0 p (fun m hm he hpm=>hh t0 ht0 (by rw [←et];exact e2) m hm he hpm) hu]
 obtain ⟨W,k,rfl,hk,_⟩:=exists_mkA a w1
 cases hra:rightL W k with
 | false=>exact fin (fun _=>false) (fun e he=>has_wrong2 (ok_pf (hT e he)) hk hra) (fun _ _ _ _ h=>by cases h) (fun _ _ _ _ _ _ h=>by cases h)
 | true =>
  obtain ⟨hf,x,hx,rfl⟩:=right_is hk hra
  refine fin (fun e=>decide (inP W x e.1)) (fun e he=>has_pf (hT e he) hf x hx) (fun y hy z hz h1 h2 hb=>same_of hT hnd hy hz (of_decide_eq_true h1) (of_decide_eq_true h2) hb) (fun t0 ht0 hg m hm hm0 hpm=>?_)
  have hpm:=of_decide_eq_true hpm
  rw [hm0] at hpm
  obtain ⟨e,he,t,ht,et,hin,hbits⟩:=hid_has hE (by omega) ht0 hg hpm
  obtain ⟨m',hm',em⟩:=List.mem_map.1 ((hmem e).2 he)
  have ht':m'.1=t:=pf_inj (hT m' hm') ht (by rw [←et,←em];rfl)
  refine ⟨m',hm',decide_eq_true (by rw [ht'];exact hin),?_⟩
  have hb:((wd t.1-t.2.2:Nat):Int)>((wd t0.1-t0.2.2:Nat):Int):=hbits
  unfold bitsOf
  rw [hm0,ht']
  omega
theorem LintHides_pure(x0:S_api_Conf)(w0:ok_api_Conf x0)(x1:S_api_Addr)(w1:ok_api_Addr x1):crawlwaylaw60_LintHides x0 x1=some true:=by
 obtain ⟨b,hb,hn⟩:=large_code x0
 unfold crawlwaylaw60_LintHides
 rw [hb,bindM_some]
 cases b with
 | true=>rw [if_pos rfl,alive60];rfl
 | false =>
  have hc:=mod_of w0 (hn rfl)
  rw [if_neg Bool.false_ne_true,(right_code hc).2,bindM_some]
  rcases all_code hc with ⟨hr,_,_⟩ | ⟨hr,TP,h1,_⟩
  ·rw [hr,if_pos (show (!false)=true from rfl),alive60];rfl
  ·obtain ⟨_,e2⟩:=ent_code hc
   obtain ⟨f1,f2,f3⟩:=right_facts hc hr
   have hE:∀ e∈ents 0 x0.f_Peers,IsPf e.f_P:=fun e he=>(right_at _ (ents_ok hc e he)).2.2 (f1 e he)
   have hl:=all_len hc hr TP
   obtain ⟨O,r,k0,k1,k2⟩:=hides_of (c:=x0) (a:=x1) (ents 0 x0.f_Peers) (allL x0 TP) hE (by omega) (by omega) (fun o ho hk=>by
    rcases all_mem ho with ⟨_,h⟩ | ⟨e,_,_,h⟩ | ⟨e,he,h1,h2,_⟩
    ·exact absurd hk h
    ·rw [hk] at h;cases h
    ·exact ⟨e,he,h1,h2⟩) f2 w1
   rw [hr,if_neg (show ¬ (!true)=true by decide),bindM_some]
   dsimp only
   rw [h1,bindM_some,e2,bindM_some,k0,bindM_some,k1,bindM_some,k2,bindM_some]
   exact alive_then60
end Go.Proofs.YtahlbjmafceoeaaGreatDoor.Lint
