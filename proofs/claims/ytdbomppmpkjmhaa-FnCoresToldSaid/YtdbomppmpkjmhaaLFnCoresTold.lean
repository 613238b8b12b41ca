/- What these functions give, and that the law FnCoresTold gives true. -/
import Derived.Test.YtdbomppmpkjmhaaCFnCoresTold
namespace Go.Proofs.Ytdbomppmpkjmhaa.AI
open Go.Proofs
set_option linter.all false
set_option maxRecDepth 100000
structure DNode where
  Kind : Int
  Num : Int
  Name : ByteArray
  More : ByteArray
  To : ByteArray
  Kids : List (Int)
abbrev cNode (x : DNode) : List AV := [.int .i64 x.Kind, .int .i64 x.Num, .str x.Name, .str x.More, .str x.To, .tree 1 (x.Kids.map cI)]
def wtNode (x : DNode) : Nat := x.Name.size + x.More.size + x.To.size + x.Kids.length
def gdNode (x : DNode) : Prop := i64 x.Kind ∧ i64 x.Num ∧ gdS x.Name ∧ gdS x.More ∧ gdS x.To ∧ (x.Kids.length ≤ 140737488351232 ∧ ∀ y ∈ x.Kids, i64 y)
def mkNode (x : DNode) (k : Int) : DNode := { Kind := k, Num := (k + 1), Name := (mT ((k + 1) + 1)), More := (mT (((k + 1) + 1) + 1)), To := (mT ((((k + 1) + 1) + 1) + 1)), Kids := mkL mkI ct1 x.Kids (((((k + 1) + 1) + 1) + 1) + 1) }
def ctNode (x : DNode) : Nat := 1 + 1 + 1 + 1 + 1 + tot ct1 x.Kids
theorem ctle_Node (x : DNode) : ctNode x ≤ 5 * (1 + wtNode x) := by
  have h0 := tot_ct1 x.Kids
  unfold ctNode
  simp only [wtNode] at *
  omega
theorem tctle_Node (xs : List DNode) : tot ctNode xs ≤ 5 * (xs.length + tot wtNode xs) := tot_ct_le ctle_Node xs
def mwNode (x : DNode) (k : Int) : DNode := { Kind := x.Kind, Num := x.Num, Name := x.Name, More := x.More, To := x.To, Kids := mkL mkI ct1 x.Kids k }
def cwNode (x : DNode) : Nat := tot ct1 x.Kids
theorem set_cNode {xs : List DNode} {n : Nat} {x : DNode} : (xs.map cNode).set n [.int .i64 x.Kind, .int .i64 x.Num, .str x.Name, .str x.More, .str x.To, .tree 1 (x.Kids.map cI)] = (xs.set n x).map cNode := by rw [List.map_set]
theorem snoc_cNode {xs : List DNode} {x : DNode} : xs.map cNode ++ [[.int .i64 x.Kind, .int .i64 x.Num, .str x.Name, .str x.More, .str x.To, .tree 1 (x.Kids.map cI)]] = (xs ++ [x]).map cNode := by simp
theorem solid_cNode {xs : List DNode} : solid (xs.map cNode) = true := solid_map fun _ => rfl
structure DEntry where
  Name : ByteArray
  Param : ByteArray
  Body : Int
abbrev cEntry (x : DEntry) : List AV := [.str x.Name, .str x.Param, .int .i64 x.Body]
def wtEntry (x : DEntry) : Nat := x.Name.size + x.Param.size
def gdEntry (x : DEntry) : Prop := gdS x.Name ∧ gdS x.Param ∧ i64 x.Body
def mkEntry (x : DEntry) (k : Int) : DEntry := { Name := (mT k), Param := (mT (k + 1)), Body := ((k + 1) + 1) }
def ctEntry (x : DEntry) : Nat := 1 + 1 + 1
theorem ctle_Entry (x : DEntry) : ctEntry x ≤ 3 * (1 + wtEntry x) := by
  unfold ctEntry
  simp only [wtEntry] at *
  omega
theorem tctle_Entry (xs : List DEntry) : tot ctEntry xs ≤ 3 * (xs.length + tot wtEntry xs) := tot_ct_le ctle_Entry xs
theorem flat_cEntry {xs : List DEntry} : flat (xs.map cEntry) = true := flat_map fun _ => rfl
theorem set_cEntry {xs : List DEntry} {n : Nat} {x : DEntry} : (xs.map cEntry).set n [.str x.Name, .str x.Param, .int .i64 x.Body] = (xs.set n x).map cEntry := by rw [List.map_set]
theorem snoc_cEntry {xs : List DEntry} {x : DEntry} : xs.map cEntry ++ [[.str x.Name, .str x.Param, .int .i64 x.Body]] = (xs ++ [x]).map cEntry := by simp
theorem solid_cEntry {xs : List DEntry} : solid (xs.map cEntry) = true := solid_map fun _ => rfl
structure DMonitor where
  Name : ByteArray
  Vars : List (ByteArray)
  Queues : List (ByteArray)
  Entries : List (DEntry)
abbrev cMonitor (x : DMonitor) : List AV := [.str x.Name, .tree 1 (x.Vars.map cS), .tree 1 (x.Queues.map cS), .tree 3 (x.Entries.map cEntry)]
def wtMonitor (x : DMonitor) : Nat := x.Name.size + (x.Vars.length + tot wtS x.Vars) + (x.Queues.length + tot wtS x.Queues) + (x.Entries.length + tot wtEntry x.Entries)
def gdMonitor (x : DMonitor) : Prop := gdS x.Name ∧ (x.Vars.length ≤ 140737488351232 ∧ ∀ y ∈ x.Vars, gdS y) ∧ (x.Queues.length ≤ 140737488351232 ∧ ∀ y ∈ x.Queues, gdS y) ∧ (x.Entries.length ≤ 140737488351232 ∧ ∀ y ∈ x.Entries, gdEntry y)
def mkMonitor (x : DMonitor) (k : Int) : DMonitor := { Name := (mT k), Vars := mkL mkS ct1 x.Vars (k + 1), Queues := mkL mkS ct1 x.Queues ((k + 1) + (tot ct1 x.Vars : Nat)), Entries := mkL mkEntry ctEntry x.Entries (((k + 1) + (tot ct1 x.Vars : Nat)) + (tot ct1 x.Queues : Nat)) }
def ctMonitor (x : DMonitor) : Nat := 1 + tot ct1 x.Vars + tot ct1 x.Queues + tot ctEntry x.Entries
theorem ctle_Monitor (x : DMonitor) : ctMonitor x ≤ 3 * (1 + wtMonitor x) := by
  have h0 := tot_ct1 x.Vars
  have h1 := tot_ct1 x.Queues
  have h2 := tctle_Entry x.Entries
  unfold ctMonitor
  simp only [wtMonitor] at *
  omega
theorem tctle_Monitor (xs : List DMonitor) : tot ctMonitor xs ≤ 3 * (xs.length + tot wtMonitor xs) := tot_ct_le ctle_Monitor xs
def mwMonitor (x : DMonitor) (k : Int) : DMonitor := { Name := x.Name, Vars := mkL mkS ct1 x.Vars k, Queues := mkL mkS ct1 x.Queues (k + (tot ct1 x.Vars : Nat)), Entries := mkL mkEntry ctEntry x.Entries ((k + (tot ct1 x.Vars : Nat)) + (tot ct1 x.Queues : Nat)) }
def cwMonitor (x : DMonitor) : Nat := tot ct1 x.Vars + tot ct1 x.Queues + tot ctEntry x.Entries
theorem set_cMonitor {xs : List DMonitor} {n : Nat} {x : DMonitor} : (xs.map cMonitor).set n [.str x.Name, .tree 1 (x.Vars.map cS), .tree 1 (x.Queues.map cS), .tree 3 (x.Entries.map cEntry)] = (xs.set n x).map cMonitor := by rw [List.map_set]
theorem snoc_cMonitor {xs : List DMonitor} {x : DMonitor} : xs.map cMonitor ++ [[.str x.Name, .tree 1 (x.Vars.map cS), .tree 1 (x.Queues.map cS), .tree 3 (x.Entries.map cEntry)]] = (xs ++ [x]).map cMonitor := by simp
theorem solid_cMonitor {xs : List DMonitor} : solid (xs.map cMonitor) = true := solid_map fun _ => rfl
structure DProcess where
  Name : ByteArray
  Uses : List (ByteArray)
  Vars : List (ByteArray)
  Body : Int
abbrev cProcess (x : DProcess) : List AV := [.str x.Name, .tree 1 (x.Uses.map cS), .tree 1 (x.Vars.map cS), .int .i64 x.Body]
def wtProcess (x : DProcess) : Nat := x.Name.size + (x.Uses.length + tot wtS x.Uses) + (x.Vars.length + tot wtS x.Vars)
def gdProcess (x : DProcess) : Prop := gdS x.Name ∧ (x.Uses.length ≤ 140737488351232 ∧ ∀ y ∈ x.Uses, gdS y) ∧ (x.Vars.length ≤ 140737488351232 ∧ ∀ y ∈ x.Vars, gdS y) ∧ i64 x.Body
def mkProcess (x : DProcess) (k : Int) : DProcess := { Name := (mT k), Uses := mkL mkS ct1 x.Uses (k + 1), Vars := mkL mkS ct1 x.Vars ((k + 1) + (tot ct1 x.Uses : Nat)), Body := (((k + 1) + (tot ct1 x.Uses : Nat)) + (tot ct1 x.Vars : Nat)) }
def ctProcess (x : DProcess) : Nat := 1 + tot ct1 x.Uses + tot ct1 x.Vars + 1
theorem ctle_Process (x : DProcess) : ctProcess x ≤ 2 * (1 + wtProcess x) := by
  have h0 := tot_ct1 x.Uses
  have h1 := tot_ct1 x.Vars
  unfold ctProcess
  simp only [wtProcess] at *
  omega
theorem tctle_Process (xs : List DProcess) : tot ctProcess xs ≤ 2 * (xs.length + tot wtProcess xs) := tot_ct_le ctle_Process xs
def mwProcess (x : DProcess) (k : Int) : DProcess := { Name := x.Name, Uses := mkL mkS ct1 x.Uses k, Vars := mkL mkS ct1 x.Vars (k + (tot ct1 x.Uses : Nat)), Body := x.Body }
def cwProcess (x : DProcess) : Nat := tot ct1 x.Uses + tot ct1 x.Vars
theorem set_cProcess {xs : List DProcess} {n : Nat} {x : DProcess} : (xs.map cProcess).set n [.str x.Name, .tree 1 (x.Uses.map cS), .tree 1 (x.Vars.map cS), .int .i64 x.Body] = (xs.set n x).map cProcess := by rw [List.map_set]
theorem snoc_cProcess {xs : List DProcess} {x : DProcess} : xs.map cProcess ++ [[.str x.Name, .tree 1 (x.Uses.map cS), .tree 1 (x.Vars.map cS), .int .i64 x.Body]] = (xs ++ [x]).map cProcess := by simp
theorem solid_cProcess {xs : List DProcess} : solid (xs.map cProcess) = true := solid_map fun _ => rfl
structure DProgram where
  Nodes : List (DNode)
  Monitors : List (DMonitor)
  Processes : List (DProcess)
abbrev cProgram (x : DProgram) : List AV := [.tree 6 (x.Nodes.map cNode), .tree 4 (x.Monitors.map cMonitor), .tree 4 (x.Processes.map cProcess)]
def wtProgram (x : DProgram) : Nat := (x.Nodes.length + tot wtNode x.Nodes) + (x.Monitors.length + tot wtMonitor x.Monitors) + (x.Processes.length + tot wtProcess x.Processes)
def gdProgram (x : DProgram) : Prop := (x.Nodes.length ≤ 140737488351232 ∧ ∀ y ∈ x.Nodes, gdNode y) ∧ (x.Monitors.length ≤ 140737488351232 ∧ ∀ y ∈ x.Monitors, gdMonitor y) ∧ (x.Processes.length ≤ 140737488351232 ∧ ∀ y ∈ x.Processes, gdProcess y)
def mkProgram (x : DProgram) (k : Int) : DProgram := { Nodes := mkL mkNode ctNode x.Nodes k, Monitors := mkL mkMonitor ctMonitor x.Monitors (k + (tot ctNode x.Nodes : Nat)), Processes := mkL mkProcess ctProcess x.Processes ((k + (tot ctNode x.Nodes : Nat)) + (tot ctMonitor x.Monitors : Nat)) }
def ctProgram (x : DProgram) : Nat := tot ctNode x.Nodes + tot ctMonitor x.Monitors + tot ctProcess x.Processes
theorem ctle_Program (x : DProgram) : ctProgram x ≤ 5 * (1 + wtProgram x) := by
  have h0 := tctle_Node x.Nodes
  have h1 := tctle_Monitor x.Monitors
  have h2 := tctle_Process x.Processes
  unfold ctProgram
  simp only [wtProgram] at *
  omega
theorem tctle_Program (xs : List DProgram) : tot ctProgram xs ≤ 5 * (xs.length + tot wtProgram xs) := tot_ct_le ctle_Program xs
def mwProgram (x : DProgram) (k : Int) : DProgram := { Nodes := mkL mkNode ctNode x.Nodes k, Monitors := mkL mkMonitor ctMonitor x.Monitors (k + (tot ctNode x.Nodes : Nat)), Processes := mkL mkProcess ctProcess x.Processes ((k + (tot ctNode x.Nodes : Nat)) + (tot ctMonitor x.Monitors : Nat)) }
def cwProgram (x : DProgram) : Nat := tot ctNode x.Nodes + tot ctMonitor x.Monitors + tot ctProcess x.Processes
theorem set_cProgram {xs : List DProgram} {n : Nat} {x : DProgram} : (xs.map cProgram).set n [.tree 6 (x.Nodes.map cNode), .tree 4 (x.Monitors.map cMonitor), .tree 4 (x.Processes.map cProcess)] = (xs.set n x).map cProgram := by rw [List.map_set]
theorem snoc_cProgram {xs : List DProgram} {x : DProgram} : xs.map cProgram ++ [[.tree 6 (x.Nodes.map cNode), .tree 4 (x.Monitors.map cMonitor), .tree 4 (x.Processes.map cProcess)]] = (xs ++ [x]).map cProgram := by simp
theorem solid_cProgram {xs : List DProgram} : solid (xs.map cProgram) = true := solid_map fun _ => rfl
structure DGate where
  Owner : Int
  Waits : List (Int)
  Queues : List (Int)
abbrev cGate (x : DGate) : List AV := [.int .i64 x.Owner, .tree 1 (x.Waits.map cI), .tree 1 (x.Queues.map cI)]
def wtGate (x : DGate) : Nat := x.Waits.length + x.Queues.length
def gdGate (x : DGate) : Prop := i64 x.Owner ∧ (x.Waits.length ≤ 140737488351232 ∧ ∀ y ∈ x.Waits, i64 y) ∧ (x.Queues.length ≤ 140737488351232 ∧ ∀ y ∈ x.Queues, i64 y)
def mkGate (x : DGate) (k : Int) : DGate := { Owner := k, Waits := mkL mkI ct1 x.Waits (k + 1), Queues := mkL mkI ct1 x.Queues ((k + 1) + (tot ct1 x.Waits : Nat)) }
def ctGate (x : DGate) : Nat := 1 + tot ct1 x.Waits + tot ct1 x.Queues
theorem ctle_Gate (x : DGate) : ctGate x ≤ 1 * (1 + wtGate x) := by
  have h0 := tot_ct1 x.Waits
  have h1 := tot_ct1 x.Queues
  unfold ctGate
  simp only [wtGate] at *
  omega
theorem tctle_Gate (xs : List DGate) : tot ctGate xs ≤ 1 * (xs.length + tot wtGate xs) := tot_ct_le ctle_Gate xs
def mwGate (x : DGate) (k : Int) : DGate := { Owner := x.Owner, Waits := mkL mkI ct1 x.Waits k, Queues := mkL mkI ct1 x.Queues (k + (tot ct1 x.Waits : Nat)) }
def cwGate (x : DGate) : Nat := tot ct1 x.Waits + tot ct1 x.Queues
theorem set_cGate {xs : List DGate} {n : Nat} {x : DGate} : (xs.map cGate).set n [.int .i64 x.Owner, .tree 1 (x.Waits.map cI), .tree 1 (x.Queues.map cI)] = (xs.set n x).map cGate := by rw [List.map_set]
theorem snoc_cGate {xs : List DGate} {x : DGate} : xs.map cGate ++ [[.int .i64 x.Owner, .tree 1 (x.Waits.map cI), .tree 1 (x.Queues.map cI)]] = (xs ++ [x]).map cGate := by simp
theorem solid_cGate {xs : List DGate} : solid (xs.map cGate) = true := solid_map fun _ => rfl
structure DIns where
  Op : Int
  A : Int
  B : Int
  C : Int
abbrev cIns (x : DIns) : List AV := [.int .i64 x.Op, .int .i64 x.A, .int .i64 x.B, .int .i64 x.C]
def gdIns (x : DIns) : Prop := i64 x.Op ∧ i64 x.A ∧ i64 x.B ∧ i64 x.C
def mkIns (x : DIns) (k : Int) : DIns := { Op := k, A := (k + 1), B := ((k + 1) + 1), C := (((k + 1) + 1) + 1) }
def ctIns (x : DIns) : Nat := 1 + 1 + 1 + 1
theorem ctle_Ins (x : DIns) : ctIns x ≤ 4 := by
  unfold ctIns
  omega
theorem tctle_Ins (xs : List DIns) : tot ctIns xs ≤ 4 * xs.length := tot_ct_le0 ctle_Ins xs
theorem flat_cIns {xs : List DIns} : flat (xs.map cIns) = true := flat_map fun _ => rfl
theorem set_cIns {xs : List DIns} {n : Nat} {x : DIns} : (xs.map cIns).set n [.int .i64 x.Op, .int .i64 x.A, .int .i64 x.B, .int .i64 x.C] = (xs.set n x).map cIns := by rw [List.map_set]
theorem snoc_cIns {xs : List DIns} {x : DIns} : xs.map cIns ++ [[.int .i64 x.Op, .int .i64 x.A, .int .i64 x.B, .int .i64 x.C]] = (xs ++ [x]).map cIns := by simp
theorem solid_cIns {xs : List DIns} : solid (xs.map cIns) = true := solid_map fun _ => rfl
structure DCore where
  Regs : List (Int)
  Pc : Int
  Process : Int
abbrev cCore (x : DCore) : List AV := [.tree 1 (x.Regs.map cI), .int .i64 x.Pc, .int .i64 x.Process]
def wtCore (x : DCore) : Nat := x.Regs.length
def gdCore (x : DCore) : Prop := (x.Regs.length ≤ 140737488351232 ∧ ∀ y ∈ x.Regs, i64 y) ∧ i64 x.Pc ∧ i64 x.Process
def mkCore (x : DCore) (k : Int) : DCore := { Regs := mkL mkI ct1 x.Regs k, Pc := (k + (tot ct1 x.Regs : Nat)), Process := ((k + (tot ct1 x.Regs : Nat)) + 1) }
def ctCore (x : DCore) : Nat := tot ct1 x.Regs + 1 + 1
theorem ctle_Core (x : DCore) : ctCore x ≤ 2 * (1 + wtCore x) := by
  have h0 := tot_ct1 x.Regs
  unfold ctCore
  simp only [wtCore] at *
  omega
theorem tctle_Core (xs : List DCore) : tot ctCore xs ≤ 2 * (xs.length + tot wtCore xs) := tot_ct_le ctle_Core xs
def mwCore (x : DCore) (k : Int) : DCore := { Regs := mkL mkI ct1 x.Regs k, Pc := x.Pc, Process := x.Process }
def cwCore (x : DCore) : Nat := tot ct1 x.Regs
theorem set_cCore {xs : List DCore} {n : Nat} {x : DCore} : (xs.map cCore).set n [.tree 1 (x.Regs.map cI), .int .i64 x.Pc, .int .i64 x.Process] = (xs.set n x).map cCore := by rw [List.map_set]
theorem snoc_cCore {xs : List DCore} {x : DCore} : xs.map cCore ++ [[.tree 1 (x.Regs.map cI), .int .i64 x.Pc, .int .i64 x.Process]] = (xs ++ [x]).map cCore := by simp
theorem solid_cCore {xs : List DCore} : solid (xs.map cCore) = true := solid_map fun _ => rfl
structure DPlaces where
  Names : List (ByteArray)
  Ats : List (Int)
abbrev cPlaces (x : DPlaces) : List AV := [.tree 1 (x.Names.map cS), .tree 1 (x.Ats.map cI)]
def wtPlaces (x : DPlaces) : Nat := (x.Names.length + tot wtS x.Names) + x.Ats.length
def gdPlaces (x : DPlaces) : Prop := (x.Names.length ≤ 140737488351232 ∧ ∀ y ∈ x.Names, gdS y) ∧ (x.Ats.length ≤ 140737488351232 ∧ ∀ y ∈ x.Ats, i64 y)
def mkPlaces (x : DPlaces) (k : Int) : DPlaces := { Names := mkL mkS ct1 x.Names k, Ats := mkL mkI ct1 x.Ats (k + (tot ct1 x.Names : Nat)) }
def ctPlaces (x : DPlaces) : Nat := tot ct1 x.Names + tot ct1 x.Ats
theorem ctle_Places (x : DPlaces) : ctPlaces x ≤ 1 * (1 + wtPlaces x) := by
  have h0 := tot_ct1 x.Names
  have h1 := tot_ct1 x.Ats
  unfold ctPlaces
  simp only [wtPlaces] at *
  omega
theorem tctle_Places (xs : List DPlaces) : tot ctPlaces xs ≤ 1 * (xs.length + tot wtPlaces xs) := tot_ct_le ctle_Places xs
def mwPlaces (x : DPlaces) (k : Int) : DPlaces := { Names := mkL mkS ct1 x.Names k, Ats := mkL mkI ct1 x.Ats (k + (tot ct1 x.Names : Nat)) }
def cwPlaces (x : DPlaces) : Nat := tot ct1 x.Names + tot ct1 x.Ats
theorem set_cPlaces {xs : List DPlaces} {n : Nat} {x : DPlaces} : (xs.map cPlaces).set n [.tree 1 (x.Names.map cS), .tree 1 (x.Ats.map cI)] = (xs.set n x).map cPlaces := by rw [List.map_set]
theorem snoc_cPlaces {xs : List DPlaces} {x : DPlaces} : xs.map cPlaces ++ [[.tree 1 (x.Names.map cS), .tree 1 (x.Ats.map cI)]] = (xs ++ [x]).map cPlaces := by simp
theorem solid_cPlaces {xs : List DPlaces} : solid (xs.map cPlaces) = true := solid_map fun _ => rfl
structure DImage where
  Text : List (Int)
  Starts : List (Int)
  Size : Int
abbrev cImage (x : DImage) : List AV := [.tree 1 (x.Text.map cI), .tree 1 (x.Starts.map cI), .int .i64 x.Size]
def wtImage (x : DImage) : Nat := x.Text.length + x.Starts.length
def gdImage (x : DImage) : Prop := (x.Text.length ≤ 140737488351232 ∧ ∀ y ∈ x.Text, i64 y) ∧ (x.Starts.length ≤ 140737488351232 ∧ ∀ y ∈ x.Starts, i64 y) ∧ i64 x.Size
def mkImage (x : DImage) (k : Int) : DImage := { Text := mkL mkI ct1 x.Text k, Starts := mkL mkI ct1 x.Starts (k + (tot ct1 x.Text : Nat)), Size := ((k + (tot ct1 x.Text : Nat)) + (tot ct1 x.Starts : Nat)) }
def ctImage (x : DImage) : Nat := tot ct1 x.Text + tot ct1 x.Starts + 1
theorem ctle_Image (x : DImage) : ctImage x ≤ 1 * (1 + wtImage x) := by
  have h0 := tot_ct1 x.Text
  have h1 := tot_ct1 x.Starts
  unfold ctImage
  simp only [wtImage] at *
  omega
theorem tctle_Image (xs : List DImage) : tot ctImage xs ≤ 1 * (xs.length + tot wtImage xs) := tot_ct_le ctle_Image xs
def mwImage (x : DImage) (k : Int) : DImage := { Text := mkL mkI ct1 x.Text k, Starts := mkL mkI ct1 x.Starts (k + (tot ct1 x.Text : Nat)), Size := x.Size }
def cwImage (x : DImage) : Nat := tot ct1 x.Text + tot ct1 x.Starts
theorem set_cImage {xs : List DImage} {n : Nat} {x : DImage} : (xs.map cImage).set n [.tree 1 (x.Text.map cI), .tree 1 (x.Starts.map cI), .int .i64 x.Size] = (xs.set n x).map cImage := by rw [List.map_set]
theorem snoc_cImage {xs : List DImage} {x : DImage} : xs.map cImage ++ [[.tree 1 (x.Text.map cI), .tree 1 (x.Starts.map cI), .int .i64 x.Size]] = (xs ++ [x]).map cImage := by simp
theorem solid_cImage {xs : List DImage} : solid (xs.map cImage) = true := solid_map fun _ => rfl
structure DKernel where
  Gates : List (DGate)
  Ready : List (Int)
  Saved : List (DCore)
  Over : List (Bool)
abbrev cKernel (x : DKernel) : List AV := [.tree 3 (x.Gates.map cGate), .tree 1 (x.Ready.map cI), .tree 3 (x.Saved.map cCore), .tree 1 (x.Over.map cB)]
def wtKernel (x : DKernel) : Nat := (x.Gates.length + tot wtGate x.Gates) + x.Ready.length + (x.Saved.length + tot wtCore x.Saved) + x.Over.length
def gdKernel (x : DKernel) : Prop := (x.Gates.length ≤ 140737488351232 ∧ ∀ y ∈ x.Gates, gdGate y) ∧ (x.Ready.length ≤ 140737488351232 ∧ ∀ y ∈ x.Ready, i64 y) ∧ (x.Saved.length ≤ 140737488351232 ∧ ∀ y ∈ x.Saved, gdCore y) ∧ (x.Over.length ≤ 140737488351232)
def mkKernel (x : DKernel) (k : Int) : DKernel := { Gates := mkL mkGate ctGate x.Gates k, Ready := mkL mkI ct1 x.Ready (k + (tot ctGate x.Gates : Nat)), Saved := mkL mkCore ctCore x.Saved ((k + (tot ctGate x.Gates : Nat)) + (tot ct1 x.Ready : Nat)), Over := mkL mkB ct1 x.Over (((k + (tot ctGate x.Gates : Nat)) + (tot ct1 x.Ready : Nat)) + (tot ctCore x.Saved : Nat)) }
def ctKernel (x : DKernel) : Nat := tot ctGate x.Gates + tot ct1 x.Ready + tot ctCore x.Saved + tot ct1 x.Over
theorem ctle_Kernel (x : DKernel) : ctKernel x ≤ 2 * (1 + wtKernel x) := by
  have h0 := tctle_Gate x.Gates
  have h1 := tot_ct1 x.Ready
  have h2 := tctle_Core x.Saved
  have h3 := tot_ct1 x.Over
  unfold ctKernel
  simp only [wtKernel] at *
  omega
theorem tctle_Kernel (xs : List DKernel) : tot ctKernel xs ≤ 2 * (xs.length + tot wtKernel xs) := tot_ct_le ctle_Kernel xs
def mwKernel (x : DKernel) (k : Int) : DKernel := { Gates := mkL mkGate ctGate x.Gates k, Ready := mkL mkI ct1 x.Ready (k + (tot ctGate x.Gates : Nat)), Saved := mkL mkCore ctCore x.Saved ((k + (tot ctGate x.Gates : Nat)) + (tot ct1 x.Ready : Nat)), Over := mkL mkB ct1 x.Over (((k + (tot ctGate x.Gates : Nat)) + (tot ct1 x.Ready : Nat)) + (tot ctCore x.Saved : Nat)) }
def cwKernel (x : DKernel) : Nat := tot ctGate x.Gates + tot ct1 x.Ready + tot ctCore x.Saved + tot ct1 x.Over
theorem set_cKernel {xs : List DKernel} {n : Nat} {x : DKernel} : (xs.map cKernel).set n [.tree 3 (x.Gates.map cGate), .tree 1 (x.Ready.map cI), .tree 3 (x.Saved.map cCore), .tree 1 (x.Over.map cB)] = (xs.set n x).map cKernel := by rw [List.map_set]
theorem snoc_cKernel {xs : List DKernel} {x : DKernel} : xs.map cKernel ++ [[.tree 3 (x.Gates.map cGate), .tree 1 (x.Ready.map cI), .tree 3 (x.Saved.map cCore), .tree 1 (x.Over.map cB)]] = (xs ++ [x]).map cKernel := by simp
theorem solid_cKernel {xs : List DKernel} : solid (xs.map cKernel) = true := solid_map fun _ => rfl
def FT := (And.intro (And.intro (And.intro (And.intro (And.intro @solid_cNode @solid_cEntry) (And.intro @solid_cMonitor @solid_cProcess)) (And.intro (And.intro @solid_cProgram @solid_cGate) (And.intro @solid_cIns @solid_cCore))) (And.intro (And.intro (And.intro @solid_cPlaces @solid_cImage) (And.intro @solid_cKernel @flat_cEntry)) (And.intro (And.intro @flat_cIns @snoc_cNode) (And.intro @snoc_cEntry (And.intro @snoc_cMonitor @snoc_cProcess))))) (And.intro (And.intro (And.intro (And.intro @snoc_cProgram @snoc_cGate) (And.intro @snoc_cIns @snoc_cCore)) (And.intro (And.intro @snoc_cPlaces @snoc_cImage) (And.intro @snoc_cKernel (And.intro @set_cNode @set_cEntry)))) (And.intro (And.intro (And.intro @set_cMonitor @set_cProcess) (And.intro @set_cProgram @set_cGate)) (And.intro (And.intro @set_cIns @set_cCore) (And.intro @set_cPlaces (And.intro @set_cImage @set_cKernel))))))
/-! the cursor of a draw: a box on the caller's heap; gcOk: what a call leaves is what was there -/
structure Cur where
  b : List UInt8
  i : Nat
  h : Int
abbrev cCur (c : Cur) : List AV := [.tree 1 (c.b.map cY), .int .i64 (c.i : Int), .int .i64 c.h]
def nextH (h : Int) : Int := IntKind.wrap .i64 (IntKind.wrap .i64 (h * 6364136223846793005) + 1442695040888963407)
def lowB (x : Int) : Int := IntKind.wrap .i64 (BitVec.ofInt 64 x &&& BitVec.ofInt 64 255).toNat
def s33 (x : Int) : Int := x.fdiv (2 ^ 33)
def s45 (x : Int) : Int := x.fdiv (2 ^ 45)
def xorI (x y : Int) : Int := IntKind.wrap .i64 (BitVec.ofInt 64 x ^^^ BitVec.ofInt 64 y).toNat
theorem b33 {w : Int} : bin .shr (.int .i64 w) (.int .u64 33) = some (.int .i64 (s33 w)) := rfl
theorem b45 {w : Int} : bin .shr (.int .i64 w) (.int .u64 45) = some (.int .i64 (s45 w)) := rfl
theorem bxor {x y : Int} : bin .xor (.int .i64 x) (.int .i64 y) = some (.int .i64 (xorI x y)) := rfl
theorem b255 {x : Int} : bin .and (.int .i64 x) (.int .i64 255) = some (.int .i64 (lowB x)) := rfl
def rawB (h : Int) : Int := lowB (xorI (s33 h) (s45 h))
def byteF (c : Cur) : Int × Cur := if hi : c.i < c.b.length then (lowB (IntKind.wrap .i64 (rawB (nextH c.h) + (c.b[c.i].toNat : Int))), ⟨c.b, c.i + 1, nextH c.h⟩) else (rawB (nextH c.h), ⟨c.b, c.i, nextH c.h⟩)
theorem lowB_bd {x : Int} : 0 ≤ lowB x ∧ lowB x < 256 := by
  unfold lowB
  have h : (BitVec.ofInt 64 x &&& BitVec.ofInt 64 255).toNat ≤ 255 := by
    rw [BitVec.toNat_and]
    exact Nat.le_trans Nat.and_le_right (by decide)
  rw [wrapI (by omega) (by omega)]
  omega
theorem fsem_spec_l01Byte (c : Cur) (hb : c.b.length ≤ 1048576) : H_spec_l01Byte [.ptr ⟨0, none, 0⟩ 3 0 0] [some ⟨true, 0, 3, [[.tree 1 (c.b.map cY), .int .i64 (c.i : Int), .int .i64 c.h]]⟩] = some (.int .i64 (byteF c).1, [some ⟨true, 0, 3, [[.tree 1 ((byteF c).2.b.map cY), .int .i64 ((byteF c).2.i : Int), .int .i64 (byteF c).2.h]]⟩]) := by
  obtain ⟨b, i, h⟩ := c
  simp only at hb
  have hn : IntKind.wrap .i64 (IntKind.wrap .i64 (h * 6364136223846793005) + 1442695040888963407) = nextH h := rfl
  have hx : ∀ x, lowB (xorI (s33 x) (s45 x)) = rawB x := fun _ => rfl
  rw [sh_spec_l01Byte, run_goF]
  by_cases hi : i < b.length
  · have hi' : (i : Int) < (b.length : Int) := by omega
    have e : byteF ⟨b, i, h⟩ = (lowB (IntKind.wrap .i64 (rawB (nextH h) + (b[i].toNat : Int))), ⟨b, i + 1, nextH h⟩) := by simp only [byteF, hi, dif_pos]
    have hgr := getRow cY b hi
    have hwb : IntKind.wrap .i64 (b[i].toNat : Int) = (b[i].toNat : Int) := by have := b[i].toNat_lt; exact wrapI (by omega) (by omega)
    simp only [cY] at hgr
    simp (maxSteps := 10000000) (disch := first | assumption | omega) only [F_spec_l01Byte, params, EG, EL, ↓reduceIte, Nat.reduceEqDiff, Nat.reduceAdd, Nat.reduceSub, Nat.reduceMul, Nat.reduceLeDiff, Nat.reduceLT, Int.reduceLT, Int.reduceLE, Int.reduceEq, Int.reduceToNat, reduceCtorEq, FB, ED, FT, cx_spec_l01Byte, hn, b33, b45, bxor, b255, hx, hi, hi', wrap_succ, hgr, hwb, e]
  · have hi' : ¬ (i : Int) < (b.length : Int) := by omega
    have e : byteF ⟨b, i, h⟩ = (rawB (nextH h), ⟨b, i, nextH h⟩) := by simp only [byteF, hi, dif_neg, not_false_iff]
    simp (maxSteps := 10000000) (disch := first | assumption | omega) only [F_spec_l01Byte, params, EG, EL, ↓reduceIte, Nat.reduceEqDiff, Nat.reduceAdd, Nat.reduceSub, Nat.reduceMul, Nat.reduceLeDiff, Nat.reduceLT, Int.reduceLT, Int.reduceLE, Int.reduceEq, Int.reduceToNat, reduceCtorEq, FB, ED, FT, cx_spec_l01Byte, hn, b33, b45, bxor, b255, hx, hi, hi', e]
theorem byteF_b {c : Cur} : (byteF c).2.b = c.b := by unfold byteF; split <;> rfl
theorem byteF_bd {c : Cur} : 0 ≤ (byteF c).1 ∧ (byteF c).1 < 256 := by unfold byteF rawB; split <;> exact lowB_bd
def belowF (n : Int) (c : Cur) : Int × Cur :=
  if n ≤ 0 then (0, c) else if n ≤ 256 then ((byteF c).1.tmod n, (byteF c).2) else
    (((byteF c).1 * 16777216 + (byteF (byteF c).2).1 * 65536 + (byteF (byteF (byteF c).2).2).1 * 256 + (byteF (byteF (byteF (byteF c).2).2).2).1).tmod n, (byteF (byteF (byteF (byteF c).2).2).2).2)
theorem belowF_b {n : Int} {c : Cur} : (belowF n c).2.b = c.b := by
  unfold belowF; split
  · rfl
  · split <;> simp only [byteF_b]
theorem tmod_bd {a n : Int} (h : 0 ≤ a) (h2 : 0 < n) : 0 ≤ a.tmod n ∧ a.tmod n < n := ⟨Int.tmod_nonneg _ h, Int.tmod_lt_of_pos _ h2⟩
theorem belowF_bd {n : Int} {c : Cur} (h : 0 < n) : 0 ≤ (belowF n c).1 ∧ (belowF n c).1 < n := by
  have h1 := @byteF_bd c
  have h2 := @byteF_bd (byteF c).2
  have h3 := @byteF_bd (byteF (byteF c).2).2
  have h4 := @byteF_bd (byteF (byteF (byteF c).2).2).2
  unfold belowF
  rw [if_neg (by omega)]
  split
  · exact tmod_bd h1.1 h
  · exact tmod_bd (by omega) h
set_option maxHeartbeats 2000000 in
theorem fsem_spec_l01Below (c : Cur) (n : Int) (hb : c.b.length ≤ 1048576) : H_spec_l01Below [.ptr ⟨0, none, 0⟩ 3 0 0, .int .i64 n] [some ⟨true, 0, 3, [[.tree 1 (c.b.map cY), .int .i64 (c.i : Int), .int .i64 c.h]]⟩] = some (.int .i64 (belowF n c).1, [some ⟨true, 0, 3, [[.tree 1 ((belowF n c).2.b.map cY), .int .i64 ((belowF n c).2.i : Int), .int .i64 (belowF n c).2.h]]⟩]) := by
  have k1 := fsem_spec_l01Byte c hb
  have k2 := fsem_spec_l01Byte (byteF c).2 (by rw [byteF_b]; exact hb)
  have k3 := fsem_spec_l01Byte (byteF (byteF c).2).2 (by rw [byteF_b, byteF_b]; exact hb)
  have k4 := fsem_spec_l01Byte (byteF (byteF (byteF c).2).2).2 (by rw [byteF_b, byteF_b, byteF_b]; exact hb)
  have d1 := @byteF_bd c
  have d2 := @byteF_bd (byteF c).2
  have d3 := @byteF_bd (byteF (byteF c).2).2
  have d4 := @byteF_bd (byteF (byteF (byteF c).2).2).2
  rw [sh_spec_l01Below, run_goF]
  unfold belowF
  by_cases h0 : n ≤ 0
  · simp (maxSteps := 10000000) (disch := first | assumption | omega) only [F_spec_l01Below, params, EG, EL, ↓reduceIte, Nat.reduceEqDiff, Nat.reduceAdd, Nat.reduceSub, Nat.reduceMul, Nat.reduceLeDiff, Nat.reduceLT, Int.reduceLT, Int.reduceLE, Int.reduceEq, Int.reduceToNat, reduceCtorEq, FB, ED, FT, cx_spec_l01Below, h0]
  · by_cases h2 : n ≤ 256
    · have hn0 : ¬ n = 0 := by omega
      simp (maxSteps := 10000000) (disch := first | assumption | omega) only [F_spec_l01Below, params, EG, EL, ↓reduceIte, Nat.reduceEqDiff, Nat.reduceAdd, Nat.reduceSub, Nat.reduceMul, Nat.reduceLeDiff, Nat.reduceLT, Int.reduceLT, Int.reduceLE, Int.reduceEq, Int.reduceToNat, reduceCtorEq, FB, ED, EF, FT, cx_spec_l01Below, h0, h2, hn0, cl_spec_l01Byte, k1]
    · have hn0 : ¬ n = 0 := by omega
      simp (maxSteps := 10000000) (disch := first | assumption | omega) only [F_spec_l01Below, params, EG, EL, ↓reduceIte, Nat.reduceEqDiff, Nat.reduceAdd, Nat.reduceSub, Nat.reduceMul, Nat.reduceLeDiff, Nat.reduceLT, Int.reduceLT, Int.reduceLE, Int.reduceEq, Int.reduceToNat, reduceCtorEq, FB, ED, EF, FT, cx_spec_l01Below, h0, h2, hn0, cl_spec_l01Byte, k1, k2, k3, k4, wrapI]
def andH (x : Int) : Int := IntKind.wrap .i64 (BitVec.ofInt 64 x &&& BitVec.ofInt 64 1073741823).toNat
theorem bandH {x : Int} : bin .and (.int .i64 x) (.int .i64 1073741823) = some (.int .i64 (andH x)) := rfl
def stepH (h : Int) (b : UInt8) : Int := andH (IntKind.wrap .i64 (IntKind.wrap .i64 (IntKind.wrap .i64 (h * 131) + (b.toNat : Int)) + 7))
def hashF : List UInt8 → Int → Int
  | [], h => h
  | b :: r, h => hashF r (stepH h b)
theorem loop_l01New (bs : List UInt8) (hb : bs.length ≤ 1048576) (h0 : Int) : loopV X_spec_l01New 0 [0, 3, 4] [(1, [0, 3])] B0_spec_l01New ⟨[(0, .tree 1 (bs.map cY)), (3, .int .i64 h0), (4, .int .i64 0)], []⟩ = some (.exit 0, ⟨[(0, .tree 1 (bs.map cY)), (3, .int .i64 (hashF (bs.take 4000) h0))], []⟩) := by
  refine loop_list (bs.take 4000) (fun _ (_ : Int) => True) (fun i h => ⟨[(0, .tree 1 (bs.map cY)), (3, .int .i64 h), (4, .int .i64 ((i : Nat) : Int))], []⟩) (fun rest h => some (.exit 0, ⟨[(0, .tree 1 (bs.map cY)), (3, .int .i64 (hashF rest h))], []⟩)) ?_ ?_ h0 trivial
  · intro h _
    have hl : (bs.take 4000).length = min 4000 bs.length := by simp
    rw [loopV_by B0_spec_l01New.eq_1]
    by_cases hc : bs.length ≤ 4000
    · have : (bs.take 4000).length = bs.length := by omega
      simp (maxSteps := 10000000) (disch := first | assumption | omega) only [EG, EL, ↓reduceIte, Nat.reduceEqDiff, Nat.reduceAdd, Nat.reduceSub, Nat.reduceMul, Nat.reduceLeDiff, Nat.reduceLT, Int.reduceLT, Int.reduceLE, Int.reduceEq, Int.reduceToNat, reduceCtorEq, FB, this, int_lt_irrefl, hashF]
    · have : (bs.take 4000).length = 4000 := by omega
      have h2 : ((4000 : Nat) : Int) < (bs.length : Int) := by omega
      have h3 : ¬ ((4000 : Nat) : Int) < 4000 := by omega
      simp (maxSteps := 10000000) (disch := first | assumption | omega) only [EG, EL, ↓reduceIte, Nat.reduceEqDiff, Nat.reduceAdd, Nat.reduceSub, Nat.reduceMul, Nat.reduceLeDiff, Nat.reduceLT, Int.reduceLT, Int.reduceLE, Int.reduceEq, Int.reduceToNat, reduceCtorEq, FB, this, h2, h3, hashF]
      split <;> rfl
  · rintro i hi0 y rest h rfl rfl _ ih
    have hl : (bs.take 4000).length = min 4000 bs.length := by simp
    have hi : i < bs.length := by omega
    have hi' : (i : Int) < (bs.length : Int) := by omega
    have h4 : (i : Int) < 4000 := by omega
    have hge : (bs.take 4000)[i] = bs[i] := List.getElem_take
    have hgr := getRow cY bs hi
    have hwb : IntKind.wrap .i64 (bs[i].toNat : Int) = (bs[i].toNat : Int) := by have := bs[i].toNat_lt; exact wrapI (by omega) (by omega)
    simp only [cY] at hgr
    have i1 := ih (stepH h bs[i]) trivial
    have hst : andH (IntKind.wrap .i64 (IntKind.wrap .i64 (IntKind.wrap .i64 (h * 131) + (bs[i].toNat : Int)) + 7)) = stepH h bs[i] := rfl
    rw [loopV_by B0_spec_l01New.eq_1, hge]
    simp (maxSteps := 10000000) (disch := first | assumption | omega) only [EG, EL, ↓reduceIte, Nat.reduceEqDiff, Nat.reduceAdd, Nat.reduceSub, Nat.reduceMul, Nat.reduceLeDiff, Nat.reduceLT, Int.reduceLT, Int.reduceLE, Int.reduceEq, Int.reduceToNat, reduceCtorEq, FB, ED, FT, cx_spec_l01New, hi', h4, hgr, wrap_succ, hwb, bandH, hst, i1, hashF]
def curNew (bs : List UInt8) : Cur := ⟨bs, 0, hashF (bs.take 4000) (IntKind.wrap .i64 (76401 + (bs.length : Int)))⟩
theorem fsem_spec_l01New (bs : List UInt8) (hb : bs.length ≤ 1048576) : H_spec_l01New [.tree 1 (bs.map cY)] [] = some (.ptr ⟨0, none, 0⟩ 3 0 0, [some ⟨true, 0, 3, [[.tree 1 ((curNew bs).b.map cY), .int .i64 ((curNew bs).i : Int), .int .i64 (curNew bs).h]]⟩]) := by
  have l := loop_l01New bs hb (IntKind.wrap .i64 (76401 + (bs.length : Int)))
  rw [sh_spec_l01New, run_goF]
  simp (maxSteps := 10000000) (disch := first | assumption | omega) only [F_spec_l01New, params, EG, EL, ↓reduceIte, Nat.reduceEqDiff, Nat.reduceAdd, Nat.reduceSub, Nat.reduceMul, Nat.reduceLeDiff, Nat.reduceLT, Int.reduceLT, Int.reduceLE, Int.reduceEq, Int.reduceToNat, reduceCtorEq, FB, ED, FT, cx_spec_l01New, l, curNew]
/-! gates -/
/-- In line, each in 0 .. 3 and none of those seen. -/
def freshB (seen : List Int) : List Int → Bool
  | [] => true
  | x :: xs => decide (0 ≤ x ∧ x ≤ 3) && (decide (x ∉ seen) && freshB (seen ++ [x]) xs)
def qfreshB (seen : List Int) : List Int → Bool
  | [] => true
  | x :: xs => if x = -1 then qfreshB (seen ++ [x]) xs else decide (0 ≤ x ∧ x ≤ 3) && (decide (x ∉ seen) && qfreshB (seen ++ [x]) xs)
def somebody (xs : List Int) : List Int := xs.filter (fun x => decide (x ≠ -1))
theorem freshB_app : ∀ (xs ys seen : List Int), freshB seen (xs ++ ys) = (freshB seen xs && freshB (seen ++ xs) ys)
  | [], ys, seen => by simp [freshB]
  | x :: xs, ys, seen => by
    simp only [List.cons_append, freshB, freshB_app xs ys (seen ++ [x]), List.append_assoc, List.singleton_append, List.nil_append, Bool.and_assoc]
theorem freshB_mem : ∀ (xs seen : List Int), freshB seen xs = true → ∀ x ∈ xs, 0 ≤ x ∧ x ≤ 3
  | [], _, _, x, hx => by simp at hx
  | y :: ys, seen, h, x, hx => by
    unfold freshB at h
    simp only [Bool.and_eq_true, decide_eq_true_eq] at h
    rcases List.mem_cons.1 hx with rfl | hx
    · exact h.1
    · exact freshB_mem ys _ h.2.2 x hx
theorem qfreshB_eq : ∀ (xs seen : List Int), qfreshB seen xs = freshB (somebody seen) (somebody xs)
  | [], seen => rfl
  | x :: xs, seen => by
    unfold qfreshB
    rw [qfreshB_eq xs (seen ++ [x])]
    by_cases h : x = -1
    · subst h
      simp [somebody]
    · have hm : x ∈ somebody seen ↔ x ∈ seen := by simp [somebody, h]
      rw [if_neg h]
      have e : somebody (x :: xs) = x :: somebody xs := by simp [somebody, h]
      rw [e]
      have e2 : somebody (seen ++ [x]) = somebody seen ++ [x] := by simp [somebody, h]
      rw [e2]
      conv => rhs; unfold freshB
      simp only [hm]
/-- A right gate. -/
def gateOk (owner : Int) (waits queues : List Int) : Bool :=
  decide (queues.length ≤ 2) && (freshB [] ((if owner = -1 then [] else [owner]) ++ waits ++ somebody queues) && decide (owner ≠ -1 ∨ waits.length = 0))
theorem gateOk_low {owner : Int} {waits queues : List Int} (h : ¬ (-1 ≤ owner ∧ owner ≤ 3)) : gateOk owner waits queues = false := by
  unfold gateOk
  rw [if_neg (by omega)]
  simp only [List.cons_append, List.nil_append]
  unfold freshB
  have : ¬ (0 ≤ owner ∧ owner ≤ 3) := by omega
  simp [this]
def inGate (owner : Int) (waits queues : List Int) : List Int := (if owner = -1 then [] else [owner]) ++ waits ++ somebody queues
theorem inGate_len (owner : Int) (waits queues : List Int) : (inGate owner waits queues).length ≤ 1 + waits.length + queues.length := by
  unfold inGate somebody
  have := List.length_filter_le (fun x : Int => decide (x ≠ -1)) queues
  rw [List.length_append, List.length_append]
  split <;> simp only [List.length_nil, List.length_cons] <;> omega
/-- How the reference tells a right gate. -/
theorem gateOk_spec (owner : Int) (waits queues : List Int) : gateOk owner waits queues = (decide (-1 ≤ owner ∧ owner ≤ 3) && (decide (queues.length ≤ 2) && (!(decide (owner < 0) && decide (0 < waits.length)) && (freshB (if 0 ≤ owner then [owner] else []) waits && qfreshB ((if 0 ≤ owner then [owner] else []) ++ waits) queues)))) := by
  by_cases h1 : -1 ≤ owner ∧ owner ≤ 3
  · by_cases h3 : owner < 0
    · have ho : owner = -1 := by omega
      subst ho
      by_cases h4 : waits = []
      · subst h4
        rw [qfreshB_eq]
        simp [gateOk, freshB, somebody]
      · have : ¬ waits.length = 0 := by simpa using h4
        simp [gateOk, h4, List.length_pos_iff]
    · have ho : ¬ owner = -1 := by omega
      have ho2 : 0 ≤ owner ∧ owner ≤ 3 := by omega
      rw [if_pos ho2.1, qfreshB_eq]
      unfold gateOk
      rw [if_neg ho, freshB_app ([owner] ++ waits), freshB_app [owner]]
      have e1 : freshB [] [owner] = true := by simp [freshB, ho2]
      rw [e1]
      simp only [h1, h3, and_self, decide_true, decide_false, Bool.true_and, List.nil_append, ho, not_false_eq_true, true_or, ne_eq, Bool.and_true, Bool.false_and, Bool.not_false]
      cases hf : freshB [owner] waits with
      | false => simp
      | true =>
        have hm := freshB_mem _ _ hf
        have e2 : somebody ([owner] ++ waits) = [owner] ++ waits := by
          unfold somebody
          rw [List.filter_eq_self]
          intro x hx
          rcases List.mem_append.1 hx with hx | hx
          · have := List.mem_singleton.1 hx
            exact decide_eq_true (by omega)
          · have := hm x hx
            exact decide_eq_true (by omega)
        rw [e2]
  · rw [gateOk_low h1]
    simp [h1]
theorem map_cI_snoc {xs : List Int} {y : Int} : xs.map cI ++ [[.int .i64 y]] = (xs ++ [y]).map cI := by simp
theorem map_cI_app {xs ys : List Int} : xs.map cI ++ ys.map cI = (xs ++ ys).map cI := by simp
theorem map_cI_one {y : Int} : [[AV.int .i64 y]] = [y].map cI := rfl
/-- A loop that goes on, or gives false. -/
def okR (b : Bool) (e : Nat) (s : St) (t : Nat) : Option (Ex × St) := if b = true then some (.exit e, s) else some (.ret, ⟨[(t, .bool false)], []⟩)
theorem okR_true {e t : Nat} {s : St} : okR true e s t = some (.exit e, s) := rfl
theorem okR_false {e t : Nat} {s : St} : okR false e s t = some (.ret, ⟨[(t, .bool false)], []⟩) := rfl
theorem goE_okR {ctx : Ctx} {base : Nat} {b : Bool} {e t : Nat} {s : St} {K : List Fr} : goE ctx base (okR b e s t) K = if b = true then unw ctx base K (.exit e) s else unw ctx base K .ret ⟨[(t, .bool false)], []⟩ := by
  unfold okR; split <;> rfl
theorem mem_fIx {xs : List Int} {x : Int} : ∀ {i : Nat}, (0 ≤ fIx (fun y => decide (x = y)) xs i) = (x ∈ xs) := by
  induction xs with
  | nil => intro i; simp [fIx]
  | cons y ys ih =>
    intro i
    by_cases h : x = y
    · subst h; simp [fIx]
    · simp only [fIx, h, decide_false, Bool.false_eq_true, if_false, ih, List.mem_cons, false_or]
theorem sem_spec_l01In (a lo hi : Int) : S_spec_l01In.sem [.int .i64 a, .int .i64 lo, .int .i64 hi] = some (.bool (decide (lo ≤ a ∧ a ≤ hi)), []) := by
  rw [sg_spec_l01In, sem_go]
  simp (maxSteps := 10000000) (disch := first | assumption | omega) only [F_spec_l01In, params, EG, EL, ↓reduceIte, Nat.reduceEqDiff, Nat.reduceAdd, Nat.reduceSub, Nat.reduceMul, Nat.reduceLeDiff, Nat.reduceLT, Int.reduceLT, Int.reduceLE, Int.reduceEq, Int.reduceToNat, reduceCtorEq, FB, cx_spec_l01In]
  by_cases h1 : lo ≤ a <;> by_cases h2 : a ≤ hi <;> simp [h1, h2]
theorem sem_impl_within (a lo hi : Int) : S_impl_within.sem [.int .i64 a, .int .i64 lo, .int .i64 hi] = some (.bool (decide (lo ≤ a ∧ a ≤ hi)), []) := by
  rw [sg_impl_within, sem_go]
  simp (maxSteps := 10000000) (disch := first | assumption | omega) only [F_impl_within, params, EG, EL, ↓reduceIte, Nat.reduceEqDiff, Nat.reduceAdd, Nat.reduceSub, Nat.reduceMul, Nat.reduceLeDiff, Nat.reduceLT, Int.reduceLT, Int.reduceLE, Int.reduceEq, Int.reduceToNat, reduceCtorEq, FB, cx_impl_within]
  by_cases h1 : lo ≤ a <;> by_cases h2 : a ≤ hi <;> simp [h1, h2]
theorem sem_impl_copyCore (x : DCore) (h : x.Regs.length ≤ 1048576) : S_impl_copyCore.sem [.agg (cCore x)] = some (.agg (cCore x), []) := by
  have h1 : x.Regs.length * 8 ≤ 70368744177664 := by omega
  rw [sg_impl_copyCore, sem_go]
  simp (maxSteps := 10000000) (disch := first | assumption | omega) only [F_impl_copyCore, params, EG, EL, ↓reduceIte, Nat.reduceEqDiff, Nat.reduceAdd, Nat.reduceSub, Nat.reduceMul, Nat.reduceLeDiff, Nat.reduceLT, Int.reduceLT, Int.reduceLE, Int.reduceEq, Int.reduceToNat, reduceCtorEq, FB, ED, cx_impl_copyCore, h1]
def coreNew : DCore := ⟨List.replicate 8 0, 0, -1⟩
def holdK (x : DKernel) (c : DCore) : DKernel := if 0 ≤ c.Process ∧ c.Process ≤ (x.Saved.length : Int) - 1 then { x with Saved := x.Saved.set c.Process.toNat c } else x
def wakeK (x : DKernel) (p : Int) : DKernel := if (0 ≤ p ∧ p ≤ (x.Saved.length : Int) - 1) ∧ p ∉ x.Ready then { x with Ready := x.Ready ++ [p] } else x
def pickK (x : DKernel) : DKernel × DCore × Bool := match x.Ready with | [] => (x, coreNew, false) | r :: rs => if 0 ≤ r ∧ r ≤ (x.Saved.length : Int) - 1 then ({ x with Ready := rs }, x.Saved.getD r.toNat coreNew, true) else (x, coreNew, false)
theorem sem_spec_CoreNew : S_spec_CoreNew.sem [] = some (.agg (cCore coreNew), []) := by
  rw [sg_spec_CoreNew, sem_go]
  simp (maxSteps := 10000000) (disch := first | assumption | omega) only [F_spec_CoreNew, params, EG, EL, ↓reduceIte, Nat.reduceEqDiff, Nat.reduceAdd, Nat.reduceSub, Nat.reduceMul, Nat.reduceLeDiff, Nat.reduceLT, Int.reduceLT, Int.reduceLE, Int.reduceEq, Int.reduceToNat, reduceCtorEq, FB, ED, cx_spec_CoreNew]
  first | rfl | decide
theorem sem_impl_CoreNew : S_impl_CoreNew.sem [] = some (.agg (cCore coreNew), []) := by
  rw [sg_impl_CoreNew, sem_go]
  simp (maxSteps := 10000000) (disch := first | assumption | omega) only [F_impl_CoreNew, params, EG, EL, ↓reduceIte, Nat.reduceEqDiff, Nat.reduceAdd, Nat.reduceSub, Nat.reduceMul, Nat.reduceLeDiff, Nat.reduceLT, Int.reduceLT, Int.reduceLE, Int.reduceEq, Int.reduceToNat, reduceCtorEq, FB, ED, cx_impl_CoreNew]
  first | rfl | decide
theorem fIx_any {α : Type} {p : α → Bool} : ∀ {xs : List α} {i : Nat}, (0 ≤ fIx p xs i) = (xs.any p = true)
  | [], i => by simp [fIx]
  | x :: xs, i => by
    by_cases h : p x = true
    · simp only [fIx, h, if_true, List.any_cons, Bool.true_or]; simp
    · simp only [fIx, if_neg h, List.any_cons, Bool.eq_false_iff.2 h, Bool.false_or]
      exact fIx_any
def gateNew (n : Int) : DGate := ⟨-1, [], if 0 < n then (if 1 < n then [-1, -1] else [-1]) else []⟩
theorem wrap_one : IntKind.wrap .i64 (0 + 1) = 1 := by decide
theorem wrap_two : IntKind.wrap .i64 (1 + 1) = 2 := by decide
theorem min2_0 {n : Int} : (0 < (if 2 < n then 2 else n)) = (0 < n) := by split <;> simp <;> omega
theorem min2_1 {n : Int} : (1 < (if 2 < n then 2 else n)) = (1 < n) := by split <;> simp <;> omega
theorem min2_2 {n : Int} : (2 < (if 2 < n then 2 else n)) = False := by split <;> simp <;> omega
def procCore (x : DImage) (i : Nat) : DCore := ⟨List.replicate 8 0, if h : i < x.Starts.length then x.Starts[i] else 0, i⟩
def coresF (x : DImage) : List DProcess → Nat → List DCore
  | [], _ => []
  | _ :: r, i => procCore x i :: coresF x r (i + 1)
def readyF : List DProcess → Nat → List Int
  | [], _ => []
  | _ :: r, i => (i : Int) :: readyF r (i + 1)
def overF : List DProcess → List Bool
  | [] => []
  | _ :: r => false :: overF r
def monG (m : DMonitor) : DGate := gateNew m.Queues.length
def kernelNew (p : DProgram) (x : DImage) : DKernel := ⟨p.Monitors.map monG, readyF p.Processes 0, coresF x p.Processes 0, overF p.Processes⟩
theorem gateNew_len {n : Int} : (gateNew n).Waits.length + (gateNew n).Queues.length ≤ 2 := by
  unfold gateNew; split <;> (try split) <;> simp
theorem tot_monG : ∀ {ms : List DMonitor}, tot wtGate (ms.map monG) ≤ 2 * ms.length
  | [] => Nat.le_refl _
  | m :: ms => by
    have := @tot_monG ms
    have h := @gateNew_len (m.Queues.length : Int)
    simp only [List.map_cons, tot, List.length_cons, monG, wtGate] at *
    omega
theorem coresF_tot {x : DImage} : ∀ {ps : List DProcess} {i : Nat}, tot wtCore (coresF x ps i) = 8 * ps.length ∧ (coresF x ps i).length = ps.length ∧ (readyF ps i).length = ps.length ∧ (overF ps).length = ps.length
  | [], _ => ⟨rfl, rfl, rfl, rfl⟩
  | p :: ps, i => by
    obtain ⟨a, b, c, d⟩ := @coresF_tot x ps (i + 1)
    simp only [coresF, readyF, overF, tot, List.length_cons, wtCore, procCore, List.length_replicate] at *
    omega
def insOk (op a b c : Int) : Bool := decide ((1 ≤ op ∧ op ≤ 10) ∧ (0 ≤ a ∧ a ≤ 7) ∧ (0 ≤ b ∧ b ≤ 7) ∧ (0 ≤ c ∧ c ≤ 4194303) ∧ (op = 4 ∨ b = 0) ∧ (op ≠ 1 ∨ c ≤ 1000000) ∧ (op ≠ 4 ∨ (1 ≤ c ∧ c ≤ 9)) ∧ ((op ≠ 5 ∧ op ≠ 6) ∨ c = 0) ∧ (op ≠ 8 ∨ a = 0) ∧ (op ≠ 10 ∨ 1 ≤ a))
theorem insOk_no {op a b c : Int} (h : ¬ ((1 ≤ op ∧ op ≤ 10) ∧ (0 ≤ a ∧ a ≤ 7) ∧ (0 ≤ b ∧ b ≤ 7) ∧ (0 ≤ c ∧ c ≤ 4194303) ∧ (op = 4 ∨ b = 0))) : insOk op a b c = false := by
  unfold insOk; apply decide_eq_false; omega
theorem insOk_t {op a b c : Int} (h : (1 ≤ op ∧ op ≤ 10) ∧ (0 ≤ a ∧ a ≤ 7) ∧ (0 ≤ b ∧ b ≤ 7) ∧ (0 ≤ c ∧ c ≤ 4194303) ∧ (op = 4 ∨ b = 0) ∧ (op ≠ 1 ∨ c ≤ 1000000) ∧ (op ≠ 4 ∨ (1 ≤ c ∧ c ≤ 9)) ∧ ((op ≠ 5 ∧ op ≠ 6) ∨ c = 0) ∧ (op ≠ 8 ∨ a = 0) ∧ (op ≠ 10 ∨ 1 ≤ a)) : some (AV.bool true, ([] : List (List AV))) = some (.bool (insOk op a b c), []) := by
  unfold insOk; rw [decide_eq_true h]
theorem insOk_f {op a b c : Int} (h : ¬ ((1 ≤ op ∧ op ≤ 10) ∧ (0 ≤ a ∧ a ≤ 7) ∧ (0 ≤ b ∧ b ≤ 7) ∧ (0 ≤ c ∧ c ≤ 4194303) ∧ (op = 4 ∨ b = 0) ∧ (op ≠ 1 ∨ c ≤ 1000000) ∧ (op ≠ 4 ∨ (1 ≤ c ∧ c ≤ 9)) ∧ ((op ≠ 5 ∧ op ≠ 6) ∨ c = 0) ∧ (op ≠ 8 ∨ a = 0) ∧ (op ≠ 10 ∨ 1 ≤ a))) : some (AV.bool false, ([] : List (List AV))) = some (.bool (insOk op a b c), []) := by
  unfold insOk; rw [decide_eq_false h]
theorem insOk_d {op a b c : Int} {p : Prop} [Decidable p] (h : p ↔ ((1 ≤ op ∧ op ≤ 10) ∧ (0 ≤ a ∧ a ≤ 7) ∧ (0 ≤ b ∧ b ≤ 7) ∧ (0 ≤ c ∧ c ≤ 4194303) ∧ (op = 4 ∨ b = 0) ∧ (op ≠ 1 ∨ c ≤ 1000000) ∧ (op ≠ 4 ∨ (1 ≤ c ∧ c ≤ 9)) ∧ ((op ≠ 5 ∧ op ≠ 6) ∨ c = 0) ∧ (op ≠ 8 ∨ a = 0) ∧ (op ≠ 10 ∨ 1 ≤ a))) : some (AV.bool (decide p), ([] : List (List AV))) = some (.bool (insOk op a b c), []) := by
  unfold insOk; rw [decide_eq_decide.2 h]
theorem sem_spec_InsOk (op a b c : Int) : S_spec_InsOk.sem [.agg [.int .i64 op, .int .i64 a, .int .i64 b, .int .i64 c]] = some (.bool (insOk op a b c), []) := by
  rw [sg_spec_InsOk, sem_go]
  by_cases h1 : 1 ≤ op ∧ op ≤ 10
  · by_cases h2 : 0 ≤ a ∧ a ≤ 7
    · by_cases h3 : 0 ≤ b ∧ b ≤ 7
      · by_cases h4 : 0 ≤ c ∧ c ≤ 4194303
        · by_cases h5 : b = 0
          · subst h5
            have hb : (0 : Int) ≤ 0 ∧ (0 : Int) ≤ 7 := by omega
            have : op = 1 ∨ op = 2 ∨ op = 3 ∨ op = 4 ∨ op = 5 ∨ op = 6 ∨ op = 7 ∨ op = 8 ∨ op = 9 ∨ op = 10 := by omega
            rcases this with rfl | rfl | rfl | rfl | rfl | rfl | rfl | rfl | rfl | rfl
            all_goals simp (maxSteps := 10000000) (disch := first | assumption | omega) only [F_spec_InsOk, params, EG, EL, ↓reduceIte, Nat.reduceEqDiff, Nat.reduceAdd, Nat.reduceSub, Nat.reduceMul, Nat.reduceLeDiff, Nat.reduceLT, Int.reduceLT, Int.reduceLE, Int.reduceEq, Int.reduceToNat, reduceCtorEq, FB, ED, cx_spec_InsOk, cl_spec_l01In, sem_spec_l01In,  h1, h2, hb, h4, decide_true, decide_false, Bool.not_true, Bool.not_false]
            all_goals first | exact insOk_t (by omega) | exact insOk_d (by omega) | (split <;> first | exact insOk_t (by omega) | exact insOk_f (by omega)) | (by_cases h9 : 1 ≤ a ∧ a ≤ 7 <;> simp only [h9, if_true, if_false, decide_true, decide_false] <;> first | exact insOk_t (by omega) | exact insOk_f (by omega))
          · by_cases h6 : op = 4
            · subst h6
              simp (maxSteps := 10000000) (disch := first | assumption | omega) only [F_spec_InsOk, params, EG, EL, ↓reduceIte, Nat.reduceEqDiff, Nat.reduceAdd, Nat.reduceSub, Nat.reduceMul, Nat.reduceLeDiff, Nat.reduceLT, Int.reduceLT, Int.reduceLE, Int.reduceEq, Int.reduceToNat, reduceCtorEq, FB, ED, cx_spec_InsOk, cl_spec_l01In, sem_spec_l01In,  h1, h2, h3, h4, h5, decide_true, decide_false, Bool.not_true, Bool.not_false]
              all_goals first | exact insOk_t (by omega) | exact insOk_d (by omega) | (split <;> first | exact insOk_t (by omega) | exact insOk_f (by omega)) | (by_cases h9 : 1 ≤ a ∧ a ≤ 7 <;> simp only [h9, if_true, if_false, decide_true, decide_false] <;> first | exact insOk_t (by omega) | exact insOk_f (by omega))
            · by_cases h7 : op = 10
              · subst h7
                rw [insOk_no (by omega)]
                simp (maxSteps := 10000000) (disch := first | assumption | omega) only [F_spec_InsOk, params, EG, EL, ↓reduceIte, Nat.reduceEqDiff, Nat.reduceAdd, Nat.reduceSub, Nat.reduceMul, Nat.reduceLeDiff, Nat.reduceLT, Int.reduceLT, Int.reduceLE, Int.reduceEq, Int.reduceToNat, reduceCtorEq, FB, ED, cx_spec_InsOk, cl_spec_l01In, sem_spec_l01In,  h1, h2, h3, h4, h5, decide_true, decide_false, Bool.not_true, Bool.not_false]
                try simp
              · rw [insOk_no (by omega)]
                simp (maxSteps := 10000000) (disch := first | assumption | omega) only [F_spec_InsOk, params, EG, EL, ↓reduceIte, Nat.reduceEqDiff, Nat.reduceAdd, Nat.reduceSub, Nat.reduceMul, Nat.reduceLeDiff, Nat.reduceLT, Int.reduceLT, Int.reduceLE, Int.reduceEq, Int.reduceToNat, reduceCtorEq, FB, ED, cx_spec_InsOk, cl_spec_l01In, sem_spec_l01In,  h1, h2, h3, h4, h5, h6, h7, decide_true, decide_false, Bool.not_true, Bool.not_false]
        · rw [insOk_no (by omega)]
          simp (maxSteps := 10000000) (disch := first | assumption | omega) only [F_spec_InsOk, params, EG, EL, ↓reduceIte, Nat.reduceEqDiff, Nat.reduceAdd, Nat.reduceSub, Nat.reduceMul, Nat.reduceLeDiff, Nat.reduceLT, Int.reduceLT, Int.reduceLE, Int.reduceEq, Int.reduceToNat, reduceCtorEq, FB, ED, cx_spec_InsOk, cl_spec_l01In, sem_spec_l01In,  h1, h2, h3, h4, decide_true, decide_false, Bool.not_true, Bool.not_false]
      · rw [insOk_no (by omega)]
        simp (maxSteps := 10000000) (disch := first | assumption | omega) only [F_spec_InsOk, params, EG, EL, ↓reduceIte, Nat.reduceEqDiff, Nat.reduceAdd, Nat.reduceSub, Nat.reduceMul, Nat.reduceLeDiff, Nat.reduceLT, Int.reduceLT, Int.reduceLE, Int.reduceEq, Int.reduceToNat, reduceCtorEq, FB, ED, cx_spec_InsOk, cl_spec_l01In, sem_spec_l01In,  h1, h2, h3, decide_true, decide_false, Bool.not_true, Bool.not_false]
    · rw [insOk_no (by omega)]
      simp (maxSteps := 10000000) (disch := first | assumption | omega) only [F_spec_InsOk, params, EG, EL, ↓reduceIte, Nat.reduceEqDiff, Nat.reduceAdd, Nat.reduceSub, Nat.reduceMul, Nat.reduceLeDiff, Nat.reduceLT, Int.reduceLT, Int.reduceLE, Int.reduceEq, Int.reduceToNat, reduceCtorEq, FB, ED, cx_spec_InsOk, cl_spec_l01In, sem_spec_l01In,  h1, h2, decide_true, decide_false, Bool.not_true, Bool.not_false]
  · rw [insOk_no (by omega)]
    simp (maxSteps := 10000000) (disch := first | assumption | omega) only [F_spec_InsOk, params, EG, EL, ↓reduceIte, Nat.reduceEqDiff, Nat.reduceAdd, Nat.reduceSub, Nat.reduceMul, Nat.reduceLeDiff, Nat.reduceLT, Int.reduceLT, Int.reduceLE, Int.reduceEq, Int.reduceToNat, reduceCtorEq, FB, ED, cx_spec_InsOk, cl_spec_l01In, sem_spec_l01In,  h1, decide_true, decide_false, Bool.not_true, Bool.not_false]
theorem sem_impl_InsOk (op a b c : Int) : S_impl_InsOk.sem [.agg [.int .i64 op, .int .i64 a, .int .i64 b, .int .i64 c]] = some (.bool (insOk op a b c), []) := by
  rw [sg_impl_InsOk, sem_go]
  by_cases h1 : 1 ≤ op ∧ op ≤ 10
  · by_cases h2 : 0 ≤ a ∧ a ≤ 7
    · by_cases h3 : 0 ≤ b ∧ b ≤ 7
      · by_cases h4 : 0 ≤ c ∧ c ≤ 4194303
        · by_cases h5 : b = 0
          · subst h5
            have hb : (0 : Int) ≤ 0 ∧ (0 : Int) ≤ 7 := by omega
            have : op = 1 ∨ op = 2 ∨ op = 3 ∨ op = 4 ∨ op = 5 ∨ op = 6 ∨ op = 7 ∨ op = 8 ∨ op = 9 ∨ op = 10 := by omega
            rcases this with rfl | rfl | rfl | rfl | rfl | rfl | rfl | rfl | rfl | rfl
            all_goals simp (maxSteps := 10000000) (disch := first | assumption | omega) only [F_impl_InsOk, params, EG, EL, ↓reduceIte, Nat.reduceEqDiff, Nat.reduceAdd, Nat.reduceSub, Nat.reduceMul, Nat.reduceLeDiff, Nat.reduceLT, Int.reduceLT, Int.reduceLE, Int.reduceEq, Int.reduceToNat, reduceCtorEq, FB, ED, cx_impl_InsOk, cl_impl_within, sem_impl_within,  h1, h2, hb, h4, decide_true, decide_false, Bool.not_true, Bool.not_false]
            all_goals first | exact insOk_t (by omega) | exact insOk_d (by omega) | (split <;> first | exact insOk_t (by omega) | exact insOk_f (by omega)) | (by_cases h9 : 1 ≤ a ∧ a ≤ 7 <;> simp only [h9, if_true, if_false, decide_true, decide_false] <;> first | exact insOk_t (by omega) | exact insOk_f (by omega))
          · by_cases h6 : op = 4
            · subst h6
              simp (maxSteps := 10000000) (disch := first | assumption | omega) only [F_impl_InsOk, params, EG, EL, ↓reduceIte, Nat.reduceEqDiff, Nat.reduceAdd, Nat.reduceSub, Nat.reduceMul, Nat.reduceLeDiff, Nat.reduceLT, Int.reduceLT, Int.reduceLE, Int.reduceEq, Int.reduceToNat, reduceCtorEq, FB, ED, cx_impl_InsOk, cl_impl_within, sem_impl_within,  h1, h2, h3, h4, h5, decide_true, decide_false, Bool.not_true, Bool.not_false]
              all_goals first | exact insOk_t (by omega) | exact insOk_d (by omega) | (split <;> first | exact insOk_t (by omega) | exact insOk_f (by omega)) | (by_cases h9 : 1 ≤ a ∧ a ≤ 7 <;> simp only [h9, if_true, if_false, decide_true, decide_false] <;> first | exact insOk_t (by omega) | exact insOk_f (by omega))
            · by_cases h7 : op = 10
              · subst h7
                rw [insOk_no (by omega)]
                simp (maxSteps := 10000000) (disch := first | assumption | omega) only [F_impl_InsOk, params, EG, EL, ↓reduceIte, Nat.reduceEqDiff, Nat.reduceAdd, Nat.reduceSub, Nat.reduceMul, Nat.reduceLeDiff, Nat.reduceLT, Int.reduceLT, Int.reduceLE, Int.reduceEq, Int.reduceToNat, reduceCtorEq, FB, ED, cx_impl_InsOk, cl_impl_within, sem_impl_within,  h1, h2, h3, h4, h5, decide_true, decide_false, Bool.not_true, Bool.not_false]
                try simp
              · rw [insOk_no (by omega)]
                simp (maxSteps := 10000000) (disch := first | assumption | omega) only [F_impl_InsOk, params, EG, EL, ↓reduceIte, Nat.reduceEqDiff, Nat.reduceAdd, Nat.reduceSub, Nat.reduceMul, Nat.reduceLeDiff, Nat.reduceLT, Int.reduceLT, Int.reduceLE, Int.reduceEq, Int.reduceToNat, reduceCtorEq, FB, ED, cx_impl_InsOk, cl_impl_within, sem_impl_within,  h1, h2, h3, h4, h5, h6, h7, decide_true, decide_false, Bool.not_true, Bool.not_false]
        · rw [insOk_no (by omega)]
          simp (maxSteps := 10000000) (disch := first | assumption | omega) only [F_impl_InsOk, params, EG, EL, ↓reduceIte, Nat.reduceEqDiff, Nat.reduceAdd, Nat.reduceSub, Nat.reduceMul, Nat.reduceLeDiff, Nat.reduceLT, Int.reduceLT, Int.reduceLE, Int.reduceEq, Int.reduceToNat, reduceCtorEq, FB, ED, cx_impl_InsOk, cl_impl_within, sem_impl_within,  h1, h2, h3, h4, decide_true, decide_false, Bool.not_true, Bool.not_false]
      · rw [insOk_no (by omega)]
        simp (maxSteps := 10000000) (disch := first | assumption | omega) only [F_impl_InsOk, params, EG, EL, ↓reduceIte, Nat.reduceEqDiff, Nat.reduceAdd, Nat.reduceSub, Nat.reduceMul, Nat.reduceLeDiff, Nat.reduceLT, Int.reduceLT, Int.reduceLE, Int.reduceEq, Int.reduceToNat, reduceCtorEq, FB, ED, cx_impl_InsOk, cl_impl_within, sem_impl_within,  h1, h2, h3, decide_true, decide_false, Bool.not_true, Bool.not_false]
    · rw [insOk_no (by omega)]
      simp (maxSteps := 10000000) (disch := first | assumption | omega) only [F_impl_InsOk, params, EG, EL, ↓reduceIte, Nat.reduceEqDiff, Nat.reduceAdd, Nat.reduceSub, Nat.reduceMul, Nat.reduceLeDiff, Nat.reduceLT, Int.reduceLT, Int.reduceLE, Int.reduceEq, Int.reduceToNat, reduceCtorEq, FB, ED, cx_impl_InsOk, cl_impl_within, sem_impl_within,  h1, h2, decide_true, decide_false, Bool.not_true, Bool.not_false]
  · rw [insOk_no (by omega)]
    simp (maxSteps := 10000000) (disch := first | assumption | omega) only [F_impl_InsOk, params, EG, EL, ↓reduceIte, Nat.reduceEqDiff, Nat.reduceAdd, Nat.reduceSub, Nat.reduceMul, Nat.reduceLeDiff, Nat.reduceLT, Int.reduceLT, Int.reduceLE, Int.reduceEq, Int.reduceToNat, reduceCtorEq, FB, ED, cx_impl_InsOk, cl_impl_within, sem_impl_within,  h1, decide_true, decide_false, Bool.not_true, Bool.not_false]
def valOk (n : Int) : Bool := decide (-1000000 ≤ n ∧ n ≤ 1000000)
def bitF (b : Bool) : Int := if b = true then 1 else 0
def dOp (w : Int) : Int := w.fdiv (2 ^ 28)
def s25 (w : Int) : Int := w.fdiv (2 ^ 25)
def s22 (w : Int) : Int := w.fdiv (2 ^ 22)
def dA (w : Int) : Int := IntKind.wrap .i64 (BitVec.ofInt 64 (s25 w) &&& BitVec.ofInt 64 7).toNat
def dB (w : Int) : Int := IntKind.wrap .i64 (BitVec.ofInt 64 (s22 w) &&& BitVec.ofInt 64 7).toNat
def dC (w : Int) : Int := IntKind.wrap .i64 (BitVec.ofInt 64 w &&& BitVec.ofInt 64 4194303).toNat
theorem b28 {w : Int} : bin .shr (.int .i64 w) (.int .u64 28) = some (.int .i64 (dOp w)) := rfl
theorem b25 {w : Int} : bin .shr (.int .i64 w) (.int .u64 25) = some (.int .i64 (s25 w)) := rfl
theorem b22 {w : Int} : bin .shr (.int .i64 w) (.int .u64 22) = some (.int .i64 (s22 w)) := rfl
theorem bA {w : Int} : bin .and (.int .i64 (s25 w)) (.int .i64 7) = some (.int .i64 (dA w)) := rfl
theorem bB {w : Int} : bin .and (.int .i64 (s22 w)) (.int .i64 7) = some (.int .i64 (dB w)) := rfl
theorem bC {w : Int} : bin .and (.int .i64 w) (.int .i64 4194303) = some (.int .i64 (dC w)) := rfl
theorem valOk_zero : valOk 0 = true := by decide
theorem big_op {w : Int} (h : ¬ w ≤ 8589934592) : insOk (dOp w) (dA w) (dB w) (dC w) = false := by
  apply insOk_no
  have : 11 ≤ dOp w := by unfold dOp; rw [Int.fdiv_eq_ediv_of_nonneg _ (by decide)]; omega
  omega
def decOk (w : Int) : Bool := decide (0 ≤ w) && insOk (dOp w) (dA w) (dB w) (dC w)
def decR (w : Int) : AV := if decOk w = true then .tup [.agg [.int .i64 (dOp w), .int .i64 (dA w), .int .i64 (dB w), .int .i64 (dC w)], .bool true] else .tup [.agg [.int .i64 0, .int .i64 0, .int .i64 0, .int .i64 0], .bool false]
def calcN (op a b : Int) : Int := if op = 1 then IntKind.wrap .i64 (a + b) else if op = 2 then IntKind.wrap .i64 (a - b) else if op = 3 then IntKind.wrap .i64 (a * b) else if op = 4 then IntKind.wrap .i64 (a.tdiv b) else if op = 5 then a.tmod b else if op = 6 then bitF (decide (a < b)) else if op = 7 then bitF (decide (a = b)) else if op = 8 then bitF (!decide (a = 0) && !decide (b = 0)) else bitF (!decide (a = 0) || !decide (b = 0))
def calcF (op a b : Int) : Int × Int := if valOk a = true ∧ valOk b = true ∧ 1 ≤ op ∧ op ≤ 9 then (if b = 0 ∧ (op = 4 ∨ op = 5) then (0, 2) else if valOk (calcN op a b) = true then (calcN op a b, 0) else (0, 1)) else (0, 1)
def negF (a : Int) : Int × Int := if valOk a = true then (IntKind.wrap .i64 (0 - a), 0) else (0, 1)
def coreOkF (c : DCore) : Bool := c.Regs.all valOk && (decide (c.Regs.length = 8) && (decide (0 ≤ c.Pc) && decide (-1 ≤ c.Process ∧ c.Process ≤ 3)))
theorem sem_spec_ValOk (n : Int) : S_spec_ValOk.sem [.int .i64 n] = some (.bool (valOk n), []) := by
  rw [sg_spec_ValOk, sem_go]
  simp (maxSteps := 10000000) (disch := first | assumption | omega) only [F_spec_ValOk, params, EG, EL, ↓reduceIte, Nat.reduceEqDiff, Nat.reduceAdd, Nat.reduceSub, Nat.reduceMul, Nat.reduceLeDiff, Nat.reduceLT, Int.reduceLT, Int.reduceLE, Int.reduceEq, Int.reduceToNat, reduceCtorEq, FB, ED, cx_spec_ValOk, cl_spec_l01In, sem_spec_l01In, valOk]
theorem sem_spec_Decode (w : Int) : S_spec_Decode.sem [.int .i64 w] = some (decR w, []) := by
  rw [sg_spec_Decode, sem_go]
  cases h2 : insOk (dOp w) (dA w) (dB w) (dC w) <;> by_cases h0 : 0 ≤ w <;> by_cases h1 : w ≤ 8589934592
  all_goals first | exact absurd (h2.symm.trans (big_op h1)) (by decide) | skip
  all_goals first | (have h0' : ¬ w < 0 := by omega) | (have h0' : w < 0 := by omega)
  all_goals simp (maxSteps := 10000000) (disch := first | assumption | omega) only [F_spec_Decode, params, EG, EL, ↓reduceIte, Nat.reduceEqDiff, Nat.reduceAdd, Nat.reduceSub, Nat.reduceMul, Nat.reduceLeDiff, Nat.reduceLT, Int.reduceLT, Int.reduceLE, Int.reduceEq, Int.reduceToNat, reduceCtorEq, FB, ED, FT, cx_spec_Decode, cl_spec_l01In, sem_spec_l01In, cl_spec_InsOk, sem_spec_InsOk, b28, b25, b22, bA, bB, bC, decR, decOk, h0, h0', h1, h2, and_self, and_true, true_and, and_false, false_and, decide_true, decide_false, Bool.true_and, Bool.false_and, Bool.not_true, Bool.not_false]
theorem sem_impl_ValOk (n : Int) : S_impl_ValOk.sem [.int .i64 n] = some (.bool (valOk n), []) := by
  rw [sg_impl_ValOk, sem_go]
  simp (maxSteps := 10000000) (disch := first | assumption | omega) only [F_impl_ValOk, params, EG, EL, ↓reduceIte, Nat.reduceEqDiff, Nat.reduceAdd, Nat.reduceSub, Nat.reduceMul, Nat.reduceLeDiff, Nat.reduceLT, Int.reduceLT, Int.reduceLE, Int.reduceEq, Int.reduceToNat, reduceCtorEq, FB, ED, cx_impl_ValOk, cl_impl_within, sem_impl_within, valOk]
theorem sem_impl_truth (b : Bool) : S_impl_truth.sem [.bool b] = some (.int .i64 (bitF b), []) := by
  rw [sg_impl_truth, sem_go]
  cases b <;> simp (maxSteps := 10000000) (disch := first | assumption | omega) only [F_impl_truth, params, EG, EL, ↓reduceIte, Nat.reduceEqDiff, Nat.reduceAdd, Nat.reduceSub, Nat.reduceMul, Nat.reduceLeDiff, Nat.reduceLT, Int.reduceLT, Int.reduceLE, Int.reduceEq, Int.reduceToNat, reduceCtorEq, FB, ED, cx_impl_truth, bitF]
theorem sem_impl_Denied (n : Int) : S_impl_Denied.sem [.int .i64 n] = some (.int .i64 (bitF (decide (n = 0))), []) := by
  rw [sg_impl_Denied, sem_go]
  simp (maxSteps := 10000000) (disch := first | assumption | omega) only [F_impl_Denied, params, EG, EL, ↓reduceIte, Nat.reduceEqDiff, Nat.reduceAdd, Nat.reduceSub, Nat.reduceMul, Nat.reduceLeDiff, Nat.reduceLT, Int.reduceLT, Int.reduceLE, Int.reduceEq, Int.reduceToNat, reduceCtorEq, FB, ED, cx_impl_Denied, cl_impl_truth, sem_impl_truth]
theorem sem_impl_Negated (n : Int) : S_impl_Negated.sem [.int .i64 n] = some (.tup [.int .i64 (negF n).1, .int .i64 (negF n).2], []) := by
  rw [sg_impl_Negated, sem_go]
  cases h : valOk n <;> simp (maxSteps := 10000000) (disch := first | assumption | omega) only [F_impl_Negated, params, EG, EL, ↓reduceIte, Nat.reduceEqDiff, Nat.reduceAdd, Nat.reduceSub, Nat.reduceMul, Nat.reduceLeDiff, Nat.reduceLT, Int.reduceLT, Int.reduceLE, Int.reduceEq, Int.reduceToNat, reduceCtorEq, FB, ED, cx_impl_Negated, cl_impl_ValOk, sem_impl_ValOk, negF, h, Bool.not_true, Bool.not_false]
theorem sem_impl_Decode (w : Int) : S_impl_Decode.sem [.int .i64 w] = some (decR w, []) := by
  rw [sg_impl_Decode, sem_go]
  cases h2 : insOk (dOp w) (dA w) (dB w) (dC w) <;> by_cases h0 : 0 ≤ w <;> by_cases h1 : w ≤ 8589934592
  all_goals first | exact absurd (h2.symm.trans (big_op h1)) (by decide) | skip
  all_goals first | (have h0' : ¬ w < 0 := by omega) | (have h0' : w < 0 := by omega)
  all_goals simp (maxSteps := 10000000) (disch := first | assumption | omega) only [F_impl_Decode, params, EG, EL, ↓reduceIte, Nat.reduceEqDiff, Nat.reduceAdd, Nat.reduceSub, Nat.reduceMul, Nat.reduceLeDiff, Nat.reduceLT, Int.reduceLT, Int.reduceLE, Int.reduceEq, Int.reduceToNat, reduceCtorEq, FB, ED, FT, cx_impl_Decode, cl_impl_within, sem_impl_within, cl_impl_InsOk, sem_impl_InsOk, b28, b25, b22, bA, bB, bC, decR, decOk, h0, h0', h1, h2, and_self, and_true, true_and, and_false, false_and, decide_true, decide_false, Bool.true_and, Bool.false_and, Bool.not_true, Bool.not_false]
theorem sem_impl_Calc (op a b : Int) : S_impl_Calc.sem [.int .i64 op, .int .i64 a, .int .i64 b] = some (.tup [.int .i64 (calcF op a b).1, .int .i64 (calcF op a b).2], []) := by
  rw [sg_impl_Calc, sem_go]
  cases h1 : valOk a
  · simp (maxSteps := 10000000) (disch := first | assumption | omega) only [F_impl_Calc, params, EG, EL, ↓reduceIte, Nat.reduceEqDiff, Nat.reduceAdd, Nat.reduceSub, Nat.reduceMul, Nat.reduceLeDiff, Nat.reduceLT, Int.reduceLT, Int.reduceLE, Int.reduceEq, Int.reduceToNat, reduceCtorEq, FB, ED, cx_impl_Calc, cl_impl_within, sem_impl_within, cl_impl_truth, sem_impl_truth, cl_impl_ValOk, sem_impl_ValOk, Bool.not_true, Bool.not_false, decide_true, decide_false, Bool.true_and, Bool.false_and, Bool.true_or, Bool.false_or, h1, calcF]
    all_goals try (split <;> rfl)
  · cases h2 : valOk b
    · simp (maxSteps := 10000000) (disch := first | assumption | omega) only [F_impl_Calc, params, EG, EL, ↓reduceIte, Nat.reduceEqDiff, Nat.reduceAdd, Nat.reduceSub, Nat.reduceMul, Nat.reduceLeDiff, Nat.reduceLT, Int.reduceLT, Int.reduceLE, Int.reduceEq, Int.reduceToNat, reduceCtorEq, FB, ED, cx_impl_Calc, cl_impl_within, sem_impl_within, cl_impl_truth, sem_impl_truth, cl_impl_ValOk, sem_impl_ValOk, Bool.not_true, Bool.not_false, decide_true, decide_false, Bool.true_and, Bool.false_and, Bool.true_or, Bool.false_or, h1, h2, calcF]
      all_goals try (split <;> rfl)
    · by_cases h3 : 1 ≤ op ∧ op ≤ 9
      · have : op = 1 ∨ op = 2 ∨ op = 3 ∨ op = 4 ∨ op = 5 ∨ op = 6 ∨ op = 7 ∨ op = 8 ∨ op = 9 := by omega
        by_cases h4 : b = 0
        all_goals by_cases h5 : a = 0
        all_goals rcases this with rfl | rfl | rfl | rfl | rfl | rfl | rfl | rfl | rfl
        all_goals simp only [calcF, calcN, h1, h2, h4, h5, valOk_zero, EG, EL, ↓reduceIte, Nat.reduceEqDiff, Nat.reduceAdd, Nat.reduceSub, Nat.reduceMul, Nat.reduceLeDiff, Nat.reduceLT, Int.reduceLT, Int.reduceLE, Int.reduceEq, Int.reduceToNat, reduceCtorEq, FB, true_and, and_true, false_and, false_or, or_false, true_or, or_true]
        all_goals simp (maxSteps := 10000000) (disch := first | assumption | omega) only [F_impl_Calc, params, EG, EL, ↓reduceIte, Nat.reduceEqDiff, Nat.reduceAdd, Nat.reduceSub, Nat.reduceMul, Nat.reduceLeDiff, Nat.reduceLT, Int.reduceLT, Int.reduceLE, Int.reduceEq, Int.reduceToNat, reduceCtorEq, FB, ED, cx_impl_Calc, cl_impl_within, sem_impl_within, cl_impl_truth, sem_impl_truth, cl_impl_ValOk, sem_impl_ValOk, Bool.not_true, Bool.not_false, decide_true, decide_false, Bool.true_and, Bool.false_and, Bool.true_or, Bool.false_or, h1, h2, h4, h5, valOk_zero]
        all_goals first | rfl | (split <;> simp_all) | trace_state
      · simp (maxSteps := 10000000) (disch := first | assumption | omega) only [F_impl_Calc, params, EG, EL, ↓reduceIte, Nat.reduceEqDiff, Nat.reduceAdd, Nat.reduceSub, Nat.reduceMul, Nat.reduceLeDiff, Nat.reduceLT, Int.reduceLT, Int.reduceLE, Int.reduceEq, Int.reduceToNat, reduceCtorEq, FB, ED, cx_impl_Calc, cl_impl_within, sem_impl_within, cl_impl_truth, sem_impl_truth, cl_impl_ValOk, sem_impl_ValOk, Bool.not_true, Bool.not_false, decide_true, decide_false, Bool.true_and, Bool.false_and, Bool.true_or, Bool.false_or, h1, h2, h3, calcF]
        try trace_state
theorem any_valOk {xs : List Int} : (xs.any fun n => !valOk n) = !(xs.all valOk) := by
  induction xs with
  | nil => rfl
  | cons y ys ih => cases h : valOk y <;> simp [ih, h]
def wordR (t : List Int) (pc : Int) : AV := if 0 ≤ pc ∧ pc ≤ (t.length : Int) - 1 then decR (t.getD pc.toNat 0) else .tup [.agg [.int .i64 0, .int .i64 0, .int .i64 0, .int .i64 0], .bool false]
def memF (op : Int) : Bool := decide (op = 2) || (decide (op = 3) || decide (op = 9))
theorem sem_spec_CoreOk (x : DCore) (hl : x.Regs.length ≤ 140737488351232) : S_spec_CoreOk.sem [.agg (cCore x)] = some (.bool (coreOkF x), []) := by
  have loop : loopV X_spec_CoreOk 0 [1, 3] [(1, [1]), (0, [2])] B0_spec_CoreOk ⟨[(1, .ptr ⟨0, none, 0⟩ 3 0 0), (3, .int .i64 0)], [some ⟨true, 0, 3, [cCore x]⟩]⟩ = okR (x.Regs.all valOk) 0 ⟨[(1, .ptr ⟨0, none, 0⟩ 3 0 0)], [some ⟨true, 0, 3, [cCore x]⟩]⟩ 2 := by
    refine loop_list x.Regs (fun _ (_ : Unit) => True) (fun i _ => ⟨[(1, .ptr ⟨0, none, 0⟩ 3 0 0), (3, .int .i64 ((i : Nat) : Int))], [some ⟨true, 0, 3, [cCore x]⟩]⟩) (fun rest _ => okR (rest.all valOk) 0 ⟨[(1, .ptr ⟨0, none, 0⟩ 3 0 0)], [some ⟨true, 0, 3, [cCore x]⟩]⟩ 2) ?_ ?_ () trivial
    · intro _ _
      rw [loopV_by B0_spec_CoreOk.eq_1]
      simp only [EG, EL, ↓reduceIte, Nat.reduceEqDiff, Nat.reduceAdd, Nat.reduceSub, Nat.reduceMul, Nat.reduceLeDiff, Nat.reduceLT, Int.reduceLT, Int.reduceLE, Int.reduceEq, Int.reduceToNat, reduceCtorEq, FB, int_lt_irrefl, List.all_nil, okR_true]
    · rintro i hi0 y rest _ rfl rfl _ ih
      have i1 := ih () trivial
      have hi : (i : Int) < (x.Regs.length : Int) := by omega
      simp only [cCore] at i1
      rw [loopV_by B0_spec_CoreOk.eq_1]
      cases h1 : valOk x.Regs[i]
      all_goals simp (maxSteps := 10000000) (disch := first | assumption | omega) only [cCore, EG, EL, ↓reduceIte, Nat.reduceEqDiff, Nat.reduceAdd, Nat.reduceSub, Nat.reduceMul, Nat.reduceLeDiff, Nat.reduceLT, Int.reduceLT, Int.reduceLE, Int.reduceEq, Int.reduceToNat, reduceCtorEq, FB, hi, wrap_succ, getRow _ _ hi0, h1, i1, cx_spec_CoreOk, cl_spec_ValOk, sem_spec_ValOk, List.all_cons, okR_false, decide_true, decide_false, Bool.not_true, Bool.not_false, Bool.true_and, Bool.false_and, Bool.and_true, Bool.and_false]
  rw [sg_spec_CoreOk, sem_go]
  cases ha : x.Regs.all valOk
  all_goals simp only [ha, EG, EL, ↓reduceIte, Nat.reduceEqDiff, Nat.reduceAdd, Nat.reduceSub, Nat.reduceMul, Nat.reduceLeDiff, Nat.reduceLT, Int.reduceLT, Int.reduceLE, Int.reduceEq, Int.reduceToNat, reduceCtorEq, FB, okR_true, okR_false, cCore] at loop
  · simp (maxSteps := 10000000) (disch := first | assumption | omega) only [cCore, F_spec_CoreOk, params, EG, EL, ↓reduceIte, Nat.reduceEqDiff, Nat.reduceAdd, Nat.reduceSub, Nat.reduceMul, Nat.reduceLeDiff, Nat.reduceLT, Int.reduceLT, Int.reduceLE, Int.reduceEq, Int.reduceToNat, reduceCtorEq, FB, cx_spec_CoreOk, ha, loop, coreOkF, decide_true, decide_false, Bool.not_true, Bool.not_false, Bool.true_and, Bool.false_and, Bool.and_true, Bool.and_false]
  · by_cases h8 : x.Regs.length = 8
    · have h8' : (x.Regs.length : Int) = 8 := by omega
      by_cases hp : 0 ≤ x.Pc
      all_goals simp (maxSteps := 10000000) (disch := first | assumption | omega) only [cCore, F_spec_CoreOk, params, EG, EL, ↓reduceIte, Nat.reduceEqDiff, Nat.reduceAdd, Nat.reduceSub, Nat.reduceMul, Nat.reduceLeDiff, Nat.reduceLT, Int.reduceLT, Int.reduceLE, Int.reduceEq, Int.reduceToNat, reduceCtorEq, FB, cx_spec_CoreOk, ha, loop, coreOkF, h8, h8', hp, cl_spec_l01In, sem_spec_l01In, decide_true, decide_false, Bool.not_true, Bool.not_false, Bool.true_and, Bool.false_and, Bool.and_true, Bool.and_false]
    · have h8' : ¬ (x.Regs.length : Int) = 8 := by omega
      simp (maxSteps := 10000000) (disch := first | assumption | omega) only [cCore, F_spec_CoreOk, params, EG, EL, ↓reduceIte, Nat.reduceEqDiff, Nat.reduceAdd, Nat.reduceSub, Nat.reduceMul, Nat.reduceLeDiff, Nat.reduceLT, Int.reduceLT, Int.reduceLE, Int.reduceEq, Int.reduceToNat, reduceCtorEq, FB, cx_spec_CoreOk, ha, loop, coreOkF, h8, h8', decide_true, decide_false, Bool.not_true, Bool.not_false, Bool.true_and, Bool.false_and, Bool.and_true, Bool.and_false]
theorem sem_impl_CoreOk_1 (n : Int) : S_impl_CoreOk_1.sem [.int .i64 n] = some (.bool (!valOk n), []) := by
  rw [sg_impl_CoreOk_1, sem_go]
  simp (maxSteps := 10000000) (disch := first | assumption | omega) only [F_impl_CoreOk_1, params, EG, EL, ↓reduceIte, Nat.reduceEqDiff, Nat.reduceAdd, Nat.reduceSub, Nat.reduceMul, Nat.reduceLeDiff, Nat.reduceLT, Int.reduceLT, Int.reduceLE, Int.reduceEq, Int.reduceToNat, reduceCtorEq, FB, cx_impl_CoreOk_1, cl_impl_ValOk, sem_impl_ValOk]
theorem sem_ix_impl_CoreOk_1 (xs : List Int) (hl : xs.length ≤ 140737488351232) : S_slices_IndexFunc_int_int.sem [.tree 1 (xs.map cI), .fn 108 []] = some (.int .i64 (fIx (fun n => !valOk n) xs 0), []) := by
  have loop : loopV X_slices_IndexFunc_int_int 0 [0, 1, 7, 8] [(1, []), (0, [4])] B0_slices_IndexFunc_int_int ⟨[(0, .tree 1 (xs.map cI)), (1, .fn 108 []), (7, .int .i64 xs.length), (8, .int .i64 0)], []⟩ = fixR 4 (fIx (fun n => !valOk n) xs 0) := by
    refine loop_list xs (fun i a => a = i) (fun i a => ⟨[(0, .tree 1 (xs.map cI)), (1, .fn 108 []), (7, .int .i64 xs.length), (8, .int .i64 (i : Int))], []⟩) (fun rest a => fixR 4 (fIx (fun n => !valOk n) rest a)) ?_ ?_ 0 rfl
    · rintro a rfl
      rw [loopV_by B0_slices_IndexFunc_int_int.eq_1]
      simp only [EG, EL, ↓reduceIte, Nat.reduceEqDiff, Nat.reduceAdd, Nat.reduceSub, Nat.reduceMul, Nat.reduceLeDiff, Nat.reduceLT, Int.reduceLT, Int.reduceLE, Int.reduceEq, Int.reduceToNat, reduceCtorEq, FB, int_lt_irrefl]
      exact fixR_nil
    · rintro i h x rest a rfl rfl rfl ih
      have hi : (a : Int) < (xs.length : Int) := by omega
      have i1 := sem_impl_CoreOk_1 xs[a]
      rw [loopV_by B0_slices_IndexFunc_int_int.eq_1]
      cases h1 : valOk xs[a]
      all_goals simp only [h1, decide_true, decide_false, Bool.not_true, Bool.not_false, Bool.true_and, Bool.false_and, Bool.and_true, Bool.and_false] at i1
      all_goals simp (maxSteps := 10000000) (disch := first | assumption | omega) only [EG, EL, ↓reduceIte, Nat.reduceEqDiff, Nat.reduceAdd, Nat.reduceSub, Nat.reduceMul, Nat.reduceLeDiff, Nat.reduceLT, Int.reduceLT, Int.reduceLE, Int.reduceEq, Int.reduceToNat, reduceCtorEq, FB, hi, wrap_succ, getRow _ _ h, ih _ rfl, cx_slices_IndexFunc_int_int, cl_impl_CoreOk_1, i1, h1, decide_true, decide_false, Bool.not_true, Bool.not_false, Bool.true_and, Bool.false_and, Bool.and_true, Bool.and_false]
      all_goals first | exact fixR_yes (by simp [h1]) | exact fixR_no (by simp [h1])
  rw [sg_slices_IndexFunc_int_int, sem_go]
  simp (maxSteps := 10000000) (disch := first | assumption | omega) only [F_slices_IndexFunc_int_int, params, EG, EL, ↓reduceIte, Nat.reduceEqDiff, Nat.reduceAdd, Nat.reduceSub, Nat.reduceMul, Nat.reduceLeDiff, Nat.reduceLT, Int.reduceLT, Int.reduceLE, Int.reduceEq, Int.reduceToNat, reduceCtorEq, FB, loop, goE_fixR]
  rcases @fIx_ge _ (fun n => !valOk n) xs 0 with h | h
  · simp [h]
  · rw [if_neg (by omega)]
theorem sem_ct_impl_CoreOk_1 (xs : List Int) (hl : xs.length ≤ 140737488351232) : S_slices_ContainsFunc_int_int.sem [.tree 1 (xs.map cI), .fn 108 []] = some (.bool (!(xs.all valOk)), []) := by
  rw [sg_slices_ContainsFunc_int_int, sem_go]
  simp (maxSteps := 10000000) (disch := first | assumption | omega) only [F_slices_ContainsFunc_int_int, params, EG, EL, ↓reduceIte, Nat.reduceEqDiff, Nat.reduceAdd, Nat.reduceSub, Nat.reduceMul, Nat.reduceLeDiff, Nat.reduceLT, Int.reduceLT, Int.reduceLE, Int.reduceEq, Int.reduceToNat, reduceCtorEq, FB, cx_slices_ContainsFunc_int_int, cl_slices_IndexFunc_int_int, sem_ix_impl_CoreOk_1, fIx_any, Bool.decide_eq_true, any_valOk]
  cases xs.all valOk <;> rfl
theorem sem_impl_CoreOk (x : DCore) (hl : x.Regs.length ≤ 140737488351232) : S_impl_CoreOk.sem [.agg (cCore x)] = some (.bool (coreOkF x), []) := by
  rw [sg_impl_CoreOk, sem_go]
  by_cases h8 : x.Regs.length = 8
  · have h8' : (x.Regs.length : Int) = 8 := by omega
    cases ha : x.Regs.all valOk <;> by_cases hp : 0 ≤ x.Pc
    all_goals simp (maxSteps := 10000000) (disch := first | assumption | omega) only [cCore, F_impl_CoreOk, params, EG, EL, ↓reduceIte, Nat.reduceEqDiff, Nat.reduceAdd, Nat.reduceSub, Nat.reduceMul, Nat.reduceLeDiff, Nat.reduceLT, Int.reduceLT, Int.reduceLE, Int.reduceEq, Int.reduceToNat, reduceCtorEq, FB, cx_impl_CoreOk, ha, coreOkF, h8, h8', hp, cl_impl_within, sem_impl_within, cl_slices_ContainsFunc_int_int, sem_ct_impl_CoreOk_1, decide_true, decide_false, Bool.not_true, Bool.not_false, Bool.true_and, Bool.false_and, Bool.and_true, Bool.and_false]
  · have h8' : ¬ (x.Regs.length : Int) = 8 := by omega
    simp (maxSteps := 10000000) (disch := first | assumption | omega) only [cCore, F_impl_CoreOk, params, EG, EL, ↓reduceIte, Nat.reduceEqDiff, Nat.reduceAdd, Nat.reduceSub, Nat.reduceMul, Nat.reduceLeDiff, Nat.reduceLT, Int.reduceLT, Int.reduceLE, Int.reduceEq, Int.reduceToNat, reduceCtorEq, FB, cx_impl_CoreOk, coreOkF, h8, h8', decide_true, decide_false, Bool.not_true, Bool.not_false, Bool.true_and, Bool.false_and, Bool.and_true, Bool.and_false]
theorem sem_impl_wordAt (t : List Int) (pc : Int) (hl : t.length ≤ 1048576) : S_impl_wordAt.sem [.tree 1 (t.map cI), .int .i64 pc] = some (wordR t pc, []) := by
  rw [sg_impl_wordAt, sem_go]
  have hw : IntKind.wrap .i64 ((t.length : Int) - 1) = (t.length : Int) - 1 := wrapI (by omega) (by omega)
  by_cases h : 0 ≤ pc ∧ pc ≤ (t.length : Int) - 1
  · obtain ⟨n, rfl⟩ : ∃ n : Nat, pc = (n : Int) := ⟨pc.toNat, by omega⟩
    have hn : n < t.length := by omega
    have hn' : (n : Int) < (t.length : Int) := by omega
    have hg : t.getD n 0 = t[n] := by simp [hn]
    cases hd : decOk t[n]
    all_goals simp (maxSteps := 10000000) (disch := first | assumption | omega) only [F_impl_wordAt, params, EG, EL, ↓reduceIte, Nat.reduceEqDiff, Nat.reduceAdd, Nat.reduceSub, Nat.reduceMul, Nat.reduceLeDiff, Nat.reduceLT, Int.reduceLT, Int.reduceLE, Int.reduceEq, Int.reduceToNat, reduceCtorEq, FB, ED, FT, cx_impl_wordAt, cl_impl_within, sem_impl_within, cl_impl_Decode, sem_impl_Decode, wordR, decR, h, hw, hg, hd, getRow _ _ hn, hn', Int.toNat_natCast, and_self, decide_true, decide_false, Bool.not_true, Bool.not_false, Bool.true_and, Bool.false_and, Bool.and_true, Bool.and_false]
  · simp (maxSteps := 10000000) (disch := first | assumption | omega) only [F_impl_wordAt, params, EG, EL, ↓reduceIte, Nat.reduceEqDiff, Nat.reduceAdd, Nat.reduceSub, Nat.reduceMul, Nat.reduceLeDiff, Nat.reduceLT, Int.reduceLT, Int.reduceLE, Int.reduceEq, Int.reduceToNat, reduceCtorEq, FB, ED, FT, cx_impl_wordAt, cl_impl_within, sem_impl_within, wordR, h, hw, decide_true, decide_false, Bool.not_true, Bool.not_false, Bool.true_and, Bool.false_and, Bool.and_true, Bool.and_false]
theorem sem_impl_usesMem (op a b c : Int) : S_impl_usesMem.sem [.agg [.int .i64 op, .int .i64 a, .int .i64 b, .int .i64 c]] = some (.bool (memF op), []) := by
  rw [sg_impl_usesMem, sem_go]
  by_cases h2 : op = 2 <;> by_cases h3 : op = 3 <;> simp (maxSteps := 10000000) (disch := first | assumption | omega) only [F_impl_usesMem, params, EG, EL, ↓reduceIte, Nat.reduceEqDiff, Nat.reduceAdd, Nat.reduceSub, Nat.reduceMul, Nat.reduceLeDiff, Nat.reduceLT, Int.reduceLT, Int.reduceLE, Int.reduceEq, Int.reduceToNat, reduceCtorEq, FB, ED, cx_impl_usesMem, memF, h2, h3, decide_true, decide_false, Bool.not_true, Bool.not_false, Bool.true_and, Bool.false_and, Bool.and_true, Bool.and_false, Bool.true_or, Bool.false_or]
def stepG (x : DCore) (m : List Int) (op : Int) (a b c : Nat) : DCore × List Int × Int :=
  if op = 2 ∨ op = 3 ∨ op = 9 then
    if m.length ≤ c then (x, m, 4)
    else if op = 3 then ({ x with Pc := IntKind.wrap .i64 (x.Pc + 1) }, m.set c (x.Regs.getD a 0), 0)
    else if valOk (m.getD c 0) = true then ({ x with Regs := x.Regs.set a (m.getD c 0), Pc := IntKind.wrap .i64 (x.Pc + 1) }, if op = 9 then m.set c 1 else m, 0)
    else (x, m, 4)
  else if op = 7 then ({ x with Pc := if x.Regs.getD a 0 = 0 then (c : Int) else IntKind.wrap .i64 (x.Pc + 1) }, m, 0)
  else if op = 8 then ({ x with Pc := (c : Int) }, m, 0)
  else if op = 10 then ({ x with Pc := IntKind.wrap .i64 (x.Pc + 1) }, m, 10)
  else
    let r : Int × Int := if op = 1 then ((c : Int), 0) else if op = 4 then calcF c (x.Regs.getD a 0) (x.Regs.getD b 0) else if op = 5 then (bitF (decide (x.Regs.getD a 0 = 0)), 0) else negF (x.Regs.getD a 0)
    if r.2 = 0 then ({ x with Regs := x.Regs.set a r.1, Pc := IntKind.wrap .i64 (x.Pc + 1) }, m, 0) else (x, m, r.2)
def stepF (x : DCore) (t m : List Int) : DCore × List Int × Int :=
  if coreOkF x = true ∧ (0 ≤ x.Pc ∧ x.Pc ≤ (t.length : Int) - 1) ∧ decOk (t.getD x.Pc.toNat 0) = true then stepG x m (dOp (t.getD x.Pc.toNat 0)) (dA (t.getD x.Pc.toNat 0)).toNat (dB (t.getD x.Pc.toNat 0)).toNat (dC (t.getD x.Pc.toNat 0)).toNat else (x, m, 4)
theorem decOk_bounds {w : Int} (h : decOk w = true) : ∃ op : Int, ∃ a b c : Nat, dOp w = op ∧ dA w = (a : Int) ∧ dB w = (b : Int) ∧ dC w = (c : Int) ∧ (1 ≤ op ∧ op ≤ 10) ∧ a < 8 ∧ b < 8 ∧ c ≤ 4194303 := by
  simp only [decOk, insOk, Bool.and_eq_true, decide_eq_true_eq] at h
  exact ⟨dOp w, (dA w).toNat, (dB w).toNat, (dC w).toNat, rfl, by omega, by omega, by omega, by omega, by omega, by omega, by omega⟩
theorem coreOk_len {x : DCore} (h : coreOkF x = true) : x.Regs.length = 8 ∧ 0 ≤ x.Pc := by
  simp only [coreOkF, Bool.and_eq_true, decide_eq_true_eq] at h
  exact ⟨h.2.1, h.2.2.1⟩
set_option maxHeartbeats 4000000 in
theorem sem_impl_StepCore (x : DCore) (t m : List Int) (hr : x.Regs.length ≤ 1048576) (ht : t.length ≤ 1048576) (hm : m.length ≤ 1048576) : S_impl_StepCore.sem [.agg (cCore x), .tree 1 (t.map cI), .tree 1 (m.map cI)] = some (.tup [.agg (cCore (stepF x t m).1), .tree 1 ((stepF x t m).2.1.map cI), .int .i64 (stepF x t m).2.2], []) := by
  obtain ⟨rs, pc, pr⟩ := x
  simp only at hr
  have hk := sem_impl_copyCore ⟨rs, pc, pr⟩ hr
  have ho := sem_impl_CoreOk ⟨rs, pc, pr⟩ (Nat.le_trans hr (by omega))
  have hw : IntKind.wrap .i64 ((t.length : Int) - 1) = (t.length : Int) - 1 := wrapI (by omega) (by omega)
  have hw2 : IntKind.wrap .i64 ((m.length : Int) - 1) = (m.length : Int) - 1 := wrapI (by omega) (by omega)
  have hcap : m.length * 8 ≤ 70368744177664 := by omega
  have hcap2 : rs.length * 8 ≤ 70368744177664 := by omega
  simp only [cCore] at hk ho
  rw [sg_impl_StepCore, sem_go]
  by_cases hp : 0 ≤ pc ∧ pc ≤ (t.length : Int) - 1
  · obtain ⟨p, rfl⟩ : ∃ n : Nat, pc = (n : Int) := ⟨pc.toNat, by omega⟩
    have hpn : p < t.length := by omega
    have hpn' : (p : Int) < (t.length : Int) := by omega
    have hg : t.getD p 0 = t[p] := by simp [hpn]
    cases hd : decOk t[p]
    · have e : stepF ⟨rs, p, pr⟩ t m = (⟨rs, p, pr⟩, m, 4) := by simp only [stepF, Int.toNat_natCast, hg, hd]; simp
      have hD := sem_impl_wordAt t p ht
      simp only [wordR, if_pos hp, Int.toNat_natCast, hg, decR, hd, if_false, Bool.false_eq_true] at hD
      cases hc : coreOkF ⟨rs, p, pr⟩ <;> simp only [hc] at ho
      all_goals simp (maxSteps := 10000000) (disch := first | assumption | omega) only [cCore, F_impl_StepCore, params, EG, EL, ↓reduceIte, Nat.reduceEqDiff, Nat.reduceAdd, Nat.reduceSub, Nat.reduceMul, Nat.reduceLeDiff, Nat.reduceLT, Int.reduceLT, Int.reduceLE, Int.reduceEq, Int.reduceToNat, reduceCtorEq, FB, ED, FT, cx_impl_StepCore, hw, hw2, hcap, hcap2, and_self, hp, cl_impl_copyCore, hk, cl_impl_wordAt, hD, cl_impl_CoreOk, ho, cl_impl_usesMem, sem_impl_usesMem, memF, cl_impl_ValOk, sem_impl_ValOk, cl_impl_Calc, sem_impl_Calc, cl_impl_Denied, sem_impl_Denied, cl_impl_Negated, sem_impl_Negated, decide_true, decide_false, Bool.not_true, Bool.not_false, Bool.true_and, Bool.false_and, Bool.and_true, Bool.and_false, Bool.true_or, Bool.false_or, Bool.or_false, Bool.or_true, e, hpn', getRow _ _ hpn]
    · obtain ⟨op, a, b, c, e1, e2, e3, e4, hop, ha, hb, hcc⟩ := decOk_bounds hd
      have hD := sem_impl_wordAt t p ht
      simp only [wordR, if_pos hp, Int.toNat_natCast, hg, decR, hd, if_true, e1, e2, e3, e4] at hD
      cases hc : coreOkF ⟨rs, p, pr⟩ <;> simp only [hc] at ho
      · have e : stepF ⟨rs, p, pr⟩ t m = (⟨rs, p, pr⟩, m, 4) := by simp only [stepF, hc]; simp
        simp (maxSteps := 10000000) (disch := first | assumption | omega) only [cCore, F_impl_StepCore, params, EG, EL, ↓reduceIte, Nat.reduceEqDiff, Nat.reduceAdd, Nat.reduceSub, Nat.reduceMul, Nat.reduceLeDiff, Nat.reduceLT, Int.reduceLT, Int.reduceLE, Int.reduceEq, Int.reduceToNat, reduceCtorEq, FB, ED, FT, cx_impl_StepCore, hw, hw2, hcap, hcap2, and_self, hp, cl_impl_copyCore, hk, cl_impl_wordAt, hD, cl_impl_CoreOk, ho, cl_impl_usesMem, sem_impl_usesMem, memF, cl_impl_ValOk, sem_impl_ValOk, cl_impl_Calc, sem_impl_Calc, cl_impl_Denied, sem_impl_Denied, cl_impl_Negated, sem_impl_Negated, decide_true, decide_false, Bool.not_true, Bool.not_false, Bool.true_and, Bool.false_and, Bool.and_true, Bool.and_false, Bool.true_or, Bool.false_or, Bool.or_false, Bool.or_true, e, hpn', getRow _ _ hpn]
      · obtain ⟨h8, h0⟩ := coreOk_len hc
        simp only at h8 h0
        have har : a < rs.length := by omega
        have hbr : b < rs.length := by omega
        have har' : (a : Int) < (rs.length : Int) := by omega
        have hbr' : (b : Int) < (rs.length : Int) := by omega
        have hga : rs.getD a 0 = rs[a] := by simp [har]
        have hgb : rs.getD b 0 = rs[b] := by simp [hbr]
        have hss : rs.set a rs[a] = rs := List.set_getElem_self ..
        have e : stepF ⟨rs, p, pr⟩ t m = stepG ⟨rs, p, pr⟩ m op a b c := by
          simp only [stepF, Int.toNat_natCast, hg, hd, hc, e1, e2, e3, e4]
          rw [if_pos ⟨trivial, hp, trivial⟩]
        rw [e]
        have : op = 1 ∨ op = 2 ∨ op = 3 ∨ op = 4 ∨ op = 5 ∨ op = 6 ∨ op = 7 ∨ op = 8 ∨ op = 9 ∨ op = 10 := by omega
        rcases this with rfl | rfl | rfl | rfl | rfl | rfl | rfl | rfl | rfl | rfl
        · simp (maxSteps := 10000000) (disch := first | assumption | omega) only [cCore, F_impl_StepCore, params, EG, EL, ↓reduceIte, Nat.reduceEqDiff, Nat.reduceAdd, Nat.reduceSub, Nat.reduceMul, Nat.reduceLeDiff, Nat.reduceLT, Int.reduceLT, Int.reduceLE, Int.reduceEq, Int.reduceToNat, reduceCtorEq, FB, ED, FT, cx_impl_StepCore, hw, hw2, hcap, hcap2, and_self, hp, cl_impl_copyCore, hk, cl_impl_wordAt, hD, cl_impl_CoreOk, ho, cl_impl_usesMem, sem_impl_usesMem, memF, cl_impl_ValOk, sem_impl_ValOk, cl_impl_Calc, sem_impl_Calc, cl_impl_Denied, sem_impl_Denied, cl_impl_Negated, sem_impl_Negated, decide_true, decide_false, Bool.not_true, Bool.not_false, Bool.true_and, Bool.false_and, Bool.and_true, Bool.and_false, Bool.true_or, Bool.false_or, Bool.or_false, Bool.or_true, hpn', getRow _ _ hpn, getRow _ _ har, getRow _ _ hbr, har, hbr, har', hbr', hga, hgb, hss, stepG, true_or, or_true, false_or, or_false, or_self]
        · by_cases hcm : c < m.length
          rotate_left
          · have hcm1 : ¬ (c : Int) ≤ (m.length : Int) - 1 := by omega
            have hcm2 : (m.length : Int) ≤ (c : Int) := by omega
            have hcm3 : m.length ≤ c := by omega
            have hcm4 : ¬ (c : Int) < (m.length : Int) := by omega
            simp (maxSteps := 10000000) (disch := first | assumption | omega) only [cCore, F_impl_StepCore, params, EG, EL, ↓reduceIte, Nat.reduceEqDiff, Nat.reduceAdd, Nat.reduceSub, Nat.reduceMul, Nat.reduceLeDiff, Nat.reduceLT, Int.reduceLT, Int.reduceLE, Int.reduceEq, Int.reduceToNat, reduceCtorEq, FB, ED, FT, cx_impl_StepCore, hw, hw2, hcap, hcap2, and_self, hp, cl_impl_copyCore, hk, cl_impl_wordAt, hD, cl_impl_CoreOk, ho, cl_impl_usesMem, sem_impl_usesMem, memF, cl_impl_ValOk, sem_impl_ValOk, cl_impl_Calc, sem_impl_Calc, cl_impl_Denied, sem_impl_Denied, cl_impl_Negated, sem_impl_Negated, decide_true, decide_false, Bool.not_true, Bool.not_false, Bool.true_and, Bool.false_and, Bool.and_true, Bool.and_false, Bool.true_or, Bool.false_or, Bool.or_false, Bool.or_true, hpn', getRow _ _ hpn, getRow _ _ har, getRow _ _ hbr, har, hbr, har', hbr', hga, hgb, hss, stepG, true_or, or_true, false_or, or_false, or_self, hcm, hcm1, hcm2, hcm3, hcm4]
          · have hcm1 : (c : Int) ≤ (m.length : Int) - 1 := by omega
            have hcm2 : ¬ (m.length : Int) ≤ (c : Int) := by omega
            have hcm3 : ¬ m.length ≤ c := by omega
            have hcm4 : (c : Int) < (m.length : Int) := by omega
            have hgm : m.getD c 0 = m[c] := by simp [hcm]
            cases hv : valOk m[c]
            all_goals simp (maxSteps := 10000000) (disch := first | assumption | omega) only [cCore, F_impl_StepCore, params, EG, EL, ↓reduceIte, Nat.reduceEqDiff, Nat.reduceAdd, Nat.reduceSub, Nat.reduceMul, Nat.reduceLeDiff, Nat.reduceLT, Int.reduceLT, Int.reduceLE, Int.reduceEq, Int.reduceToNat, reduceCtorEq, FB, ED, FT, cx_impl_StepCore, hw, hw2, hcap, hcap2, and_self, hp, cl_impl_copyCore, hk, cl_impl_wordAt, hD, cl_impl_CoreOk, ho, cl_impl_usesMem, sem_impl_usesMem, memF, cl_impl_ValOk, sem_impl_ValOk, cl_impl_Calc, sem_impl_Calc, cl_impl_Denied, sem_impl_Denied, cl_impl_Negated, sem_impl_Negated, decide_true, decide_false, Bool.not_true, Bool.not_false, Bool.true_and, Bool.false_and, Bool.and_true, Bool.and_false, Bool.true_or, Bool.false_or, Bool.or_false, Bool.or_true, hpn', getRow _ _ hpn, getRow _ _ har, getRow _ _ hbr, har, hbr, har', hbr', hga, hgb, hgm, hv, hss, stepG, true_or, or_true, false_or, or_false, or_self, hcm, hcm1, hcm2, hcm3, hcm4, getRow _ _ hcm]
        · by_cases hcm : c < m.length
          rotate_left
          · have hcm1 : ¬ (c : Int) ≤ (m.length : Int) - 1 := by omega
            have hcm2 : (m.length : Int) ≤ (c : Int) := by omega
            have hcm3 : m.length ≤ c := by omega
            have hcm4 : ¬ (c : Int) < (m.length : Int) := by omega
            simp (maxSteps := 10000000) (disch := first | assumption | omega) only [cCore, F_impl_StepCore, params, EG, EL, ↓reduceIte, Nat.reduceEqDiff, Nat.reduceAdd, Nat.reduceSub, Nat.reduceMul, Nat.reduceLeDiff, Nat.reduceLT, Int.reduceLT, Int.reduceLE, Int.reduceEq, Int.reduceToNat, reduceCtorEq, FB, ED, FT, cx_impl_StepCore, hw, hw2, hcap, hcap2, and_self, hp, cl_impl_copyCore, hk, cl_impl_wordAt, hD, cl_impl_CoreOk, ho, cl_impl_usesMem, sem_impl_usesMem, memF, cl_impl_ValOk, sem_impl_ValOk, cl_impl_Calc, sem_impl_Calc, cl_impl_Denied, sem_impl_Denied, cl_impl_Negated, sem_impl_Negated, decide_true, decide_false, Bool.not_true, Bool.not_false, Bool.true_and, Bool.false_and, Bool.and_true, Bool.and_false, Bool.true_or, Bool.false_or, Bool.or_false, Bool.or_true, hpn', getRow _ _ hpn, getRow _ _ har, getRow _ _ hbr, har, hbr, har', hbr', hga, hgb, hss, stepG, true_or, or_true, false_or, or_false, or_self, hcm, hcm1, hcm2, hcm3, hcm4]
          · have hcm1 : (c : Int) ≤ (m.length : Int) - 1 := by omega
            have hcm2 : ¬ (m.length : Int) ≤ (c : Int) := by omega
            have hcm3 : ¬ m.length ≤ c := by omega
            have hcm4 : (c : Int) < (m.length : Int) := by omega
            have hgm : m.getD c 0 = m[c] := by simp [hcm]
            simp (maxSteps := 10000000) (disch := first | assumption | omega) only [cCore, F_impl_StepCore, params, EG, EL, ↓reduceIte, Nat.reduceEqDiff, Nat.reduceAdd, Nat.reduceSub, Nat.reduceMul, Nat.reduceLeDiff, Nat.reduceLT, Int.reduceLT, Int.reduceLE, Int.reduceEq, Int.reduceToNat, reduceCtorEq, FB, ED, FT, cx_impl_StepCore, hw, hw2, hcap, hcap2, and_self, hp, cl_impl_copyCore, hk, cl_impl_wordAt, hD, cl_impl_CoreOk, ho, cl_impl_usesMem, sem_impl_usesMem, memF, cl_impl_ValOk, sem_impl_ValOk, cl_impl_Calc, sem_impl_Calc, cl_impl_Denied, sem_impl_Denied, cl_impl_Negated, sem_impl_Negated, decide_true, decide_false, Bool.not_true, Bool.not_false, Bool.true_and, Bool.false_and, Bool.and_true, Bool.and_false, Bool.true_or, Bool.false_or, Bool.or_false, Bool.or_true, hpn', getRow _ _ hpn, getRow _ _ har, getRow _ _ hbr, har, hbr, har', hbr', hga, hgb, hss, stepG, true_or, or_true, false_or, or_false, or_self, hcm, hcm1, hcm2, hcm3, hcm4, getRow _ _ hcm]
        · by_cases hq : (calcF c rs[a] rs[b]).2 = 0
          all_goals simp (maxSteps := 10000000) (disch := first | assumption | omega) only [cCore, F_impl_StepCore, params, EG, EL, ↓reduceIte, Nat.reduceEqDiff, Nat.reduceAdd, Nat.reduceSub, Nat.reduceMul, Nat.reduceLeDiff, Nat.reduceLT, Int.reduceLT, Int.reduceLE, Int.reduceEq, Int.reduceToNat, reduceCtorEq, FB, ED, FT, cx_impl_StepCore, hw, hw2, hcap, hcap2, and_self, hp, cl_impl_copyCore, hk, cl_impl_wordAt, hD, cl_impl_CoreOk, ho, cl_impl_usesMem, sem_impl_usesMem, memF, cl_impl_ValOk, sem_impl_ValOk, cl_impl_Calc, sem_impl_Calc, cl_impl_Denied, sem_impl_Denied, cl_impl_Negated, sem_impl_Negated, decide_true, decide_false, Bool.not_true, Bool.not_false, Bool.true_and, Bool.false_and, Bool.and_true, Bool.and_false, Bool.true_or, Bool.false_or, Bool.or_false, Bool.or_true, hpn', getRow _ _ hpn, getRow _ _ har, getRow _ _ hbr, har, hbr, har', hbr', hga, hgb, hss, stepG, true_or, or_true, false_or, or_false, or_self, hq]
        · simp (maxSteps := 10000000) (disch := first | assumption | omega) only [cCore, F_impl_StepCore, params, EG, EL, ↓reduceIte, Nat.reduceEqDiff, Nat.reduceAdd, Nat.reduceSub, Nat.reduceMul, Nat.reduceLeDiff, Nat.reduceLT, Int.reduceLT, Int.reduceLE, Int.reduceEq, Int.reduceToNat, reduceCtorEq, FB, ED, FT, cx_impl_StepCore, hw, hw2, hcap, hcap2, and_self, hp, cl_impl_copyCore, hk, cl_impl_wordAt, hD, cl_impl_CoreOk, ho, cl_impl_usesMem, sem_impl_usesMem, memF, cl_impl_ValOk, sem_impl_ValOk, cl_impl_Calc, sem_impl_Calc, cl_impl_Denied, sem_impl_Denied, cl_impl_Negated, sem_impl_Negated, decide_true, decide_false, Bool.not_true, Bool.not_false, Bool.true_and, Bool.false_and, Bool.and_true, Bool.and_false, Bool.true_or, Bool.false_or, Bool.or_false, Bool.or_true, hpn', getRow _ _ hpn, getRow _ _ har, getRow _ _ hbr, har, hbr, har', hbr', hga, hgb, hss, stepG, true_or, or_true, false_or, or_false, or_self]
        · by_cases hq : (negF rs[a]).2 = 0
          all_goals simp (maxSteps := 10000000) (disch := first | assumption | omega) only [cCore, F_impl_StepCore, params, EG, EL, ↓reduceIte, Nat.reduceEqDiff, Nat.reduceAdd, Nat.reduceSub, Nat.reduceMul, Nat.reduceLeDiff, Nat.reduceLT, Int.reduceLT, Int.reduceLE, Int.reduceEq, Int.reduceToNat, reduceCtorEq, FB, ED, FT, cx_impl_StepCore, hw, hw2, hcap, hcap2, and_self, hp, cl_impl_copyCore, hk, cl_impl_wordAt, hD, cl_impl_CoreOk, ho, cl_impl_usesMem, sem_impl_usesMem, memF, cl_impl_ValOk, sem_impl_ValOk, cl_impl_Calc, sem_impl_Calc, cl_impl_Denied, sem_impl_Denied, cl_impl_Negated, sem_impl_Negated, decide_true, decide_false, Bool.not_true, Bool.not_false, Bool.true_and, Bool.false_and, Bool.and_true, Bool.and_false, Bool.true_or, Bool.false_or, Bool.or_false, Bool.or_true, hpn', getRow _ _ hpn, getRow _ _ har, getRow _ _ hbr, har, hbr, har', hbr', hga, hgb, hss, stepG, true_or, or_true, false_or, or_false, or_self, hq]
        · by_cases hq : rs[a] = 0
          · have hs0 : rs.set a 0 = rs := by rw [← hq]; exact hss
            simp (maxSteps := 10000000) (disch := first | assumption | omega) only [cCore, F_impl_StepCore, params, EG, EL, ↓reduceIte, Nat.reduceEqDiff, Nat.reduceAdd, Nat.reduceSub, Nat.reduceMul, Nat.reduceLeDiff, Nat.reduceLT, Int.reduceLT, Int.reduceLE, Int.reduceEq, Int.reduceToNat, reduceCtorEq, FB, ED, FT, cx_impl_StepCore, hw, hw2, hcap, hcap2, and_self, hp, cl_impl_copyCore, hk, cl_impl_wordAt, hD, cl_impl_CoreOk, ho, cl_impl_usesMem, sem_impl_usesMem, memF, cl_impl_ValOk, sem_impl_ValOk, cl_impl_Calc, sem_impl_Calc, cl_impl_Denied, sem_impl_Denied, cl_impl_Negated, sem_impl_Negated, decide_true, decide_false, Bool.not_true, Bool.not_false, Bool.true_and, Bool.false_and, Bool.and_true, Bool.and_false, Bool.true_or, Bool.false_or, Bool.or_false, Bool.or_true, hpn', getRow _ _ hpn, getRow _ _ har, getRow _ _ hbr, har, hbr, har', hbr', hga, hgb, hss, stepG, true_or, or_true, false_or, or_false, or_self, hq, hs0]
          · simp (maxSteps := 10000000) (disch := first | assumption | omega) only [cCore, F_impl_StepCore, params, EG, EL, ↓reduceIte, Nat.reduceEqDiff, Nat.reduceAdd, Nat.reduceSub, Nat.reduceMul, Nat.reduceLeDiff, Nat.reduceLT, Int.reduceLT, Int.reduceLE, Int.reduceEq, Int.reduceToNat, reduceCtorEq, FB, ED, FT, cx_impl_StepCore, hw, hw2, hcap, hcap2, and_self, hp, cl_impl_copyCore, hk, cl_impl_wordAt, hD, cl_impl_CoreOk, ho, cl_impl_usesMem, sem_impl_usesMem, memF, cl_impl_ValOk, sem_impl_ValOk, cl_impl_Calc, sem_impl_Calc, cl_impl_Denied, sem_impl_Denied, cl_impl_Negated, sem_impl_Negated, decide_true, decide_false, Bool.not_true, Bool.not_false, Bool.true_and, Bool.false_and, Bool.and_true, Bool.and_false, Bool.true_or, Bool.false_or, Bool.or_false, Bool.or_true, hpn', getRow _ _ hpn, getRow _ _ har, getRow _ _ hbr, har, hbr, har', hbr', hga, hgb, hss, stepG, true_or, or_true, false_or, or_false, or_self, hq]
        · simp (maxSteps := 10000000) (disch := first | assumption | omega) only [cCore, F_impl_StepCore, params, EG, EL, ↓reduceIte, Nat.reduceEqDiff, Nat.reduceAdd, Nat.reduceSub, Nat.reduceMul, Nat.reduceLeDiff, Nat.reduceLT, Int.reduceLT, Int.reduceLE, Int.reduceEq, Int.reduceToNat, reduceCtorEq, FB, ED, FT, cx_impl_StepCore, hw, hw2, hcap, hcap2, and_self, hp, cl_impl_copyCore, hk, cl_impl_wordAt, hD, cl_impl_CoreOk, ho, cl_impl_usesMem, sem_impl_usesMem, memF, cl_impl_ValOk, sem_impl_ValOk, cl_impl_Calc, sem_impl_Calc, cl_impl_Denied, sem_impl_Denied, cl_impl_Negated, sem_impl_Negated, decide_true, decide_false, Bool.not_true, Bool.not_false, Bool.true_and, Bool.false_and, Bool.and_true, Bool.and_false, Bool.true_or, Bool.false_or, Bool.or_false, Bool.or_true, hpn', getRow _ _ hpn, getRow _ _ har, getRow _ _ hbr, har, hbr, har', hbr', hga, hgb, hss, stepG, true_or, or_true, false_or, or_false, or_self]
        · by_cases hcm : c < m.length
          rotate_left
          · have hcm1 : ¬ (c : Int) ≤ (m.length : Int) - 1 := by omega
            have hcm2 : (m.length : Int) ≤ (c : Int) := by omega
            have hcm3 : m.length ≤ c := by omega
            have hcm4 : ¬ (c : Int) < (m.length : Int) := by omega
            simp (maxSteps := 10000000) (disch := first | assumption | omega) only [cCore, F_impl_StepCore, params, EG, EL, ↓reduceIte, Nat.reduceEqDiff, Nat.reduceAdd, Nat.reduceSub, Nat.reduceMul, Nat.reduceLeDiff, Nat.reduceLT, Int.reduceLT, Int.reduceLE, Int.reduceEq, Int.reduceToNat, reduceCtorEq, FB, ED, FT, cx_impl_StepCore, hw, hw2, hcap, hcap2, and_self, hp, cl_impl_copyCore, hk, cl_impl_wordAt, hD, cl_impl_CoreOk, ho, cl_impl_usesMem, sem_impl_usesMem, memF, cl_impl_ValOk, sem_impl_ValOk, cl_impl_Calc, sem_impl_Calc, cl_impl_Denied, sem_impl_Denied, cl_impl_Negated, sem_impl_Negated, decide_true, decide_false, Bool.not_true, Bool.not_false, Bool.true_and, Bool.false_and, Bool.and_true, Bool.and_false, Bool.true_or, Bool.false_or, Bool.or_false, Bool.or_true, hpn', getRow _ _ hpn, getRow _ _ har, getRow _ _ hbr, har, hbr, har', hbr', hga, hgb, hss, stepG, true_or, or_true, false_or, or_false, or_self, hcm, hcm1, hcm2, hcm3, hcm4]
          · have hcm1 : (c : Int) ≤ (m.length : Int) - 1 := by omega
            have hcm2 : ¬ (m.length : Int) ≤ (c : Int) := by omega
            have hcm3 : ¬ m.length ≤ c := by omega
            have hcm4 : (c : Int) < (m.length : Int) := by omega
            have hgm : m.getD c 0 = m[c] := by simp [hcm]
            cases hv : valOk m[c]
            all_goals simp (maxSteps := 10000000) (disch := first | assumption | omega) only [cCore, F_impl_StepCore, params, EG, EL, ↓reduceIte, Nat.reduceEqDiff, Nat.reduceAdd, Nat.reduceSub, Nat.reduceMul, Nat.reduceLeDiff, Nat.reduceLT, Int.reduceLT, Int.reduceLE, Int.reduceEq, Int.reduceToNat, reduceCtorEq, FB, ED, FT, cx_impl_StepCore, hw, hw2, hcap, hcap2, and_self, hp, cl_impl_copyCore, hk, cl_impl_wordAt, hD, cl_impl_CoreOk, ho, cl_impl_usesMem, sem_impl_usesMem, memF, cl_impl_ValOk, sem_impl_ValOk, cl_impl_Calc, sem_impl_Calc, cl_impl_Denied, sem_impl_Denied, cl_impl_Negated, sem_impl_Negated, decide_true, decide_false, Bool.not_true, Bool.not_false, Bool.true_and, Bool.false_and, Bool.and_true, Bool.and_false, Bool.true_or, Bool.false_or, Bool.or_false, Bool.or_true, hpn', getRow _ _ hpn, getRow _ _ har, getRow _ _ hbr, har, hbr, har', hbr', hga, hgb, hgm, hv, hss, stepG, true_or, or_true, false_or, or_false, or_self, hcm, hcm1, hcm2, hcm3, hcm4, getRow _ _ hcm]
        · simp (maxSteps := 10000000) (disch := first | assumption | omega) only [cCore, F_impl_StepCore, params, EG, EL, ↓reduceIte, Nat.reduceEqDiff, Nat.reduceAdd, Nat.reduceSub, Nat.reduceMul, Nat.reduceLeDiff, Nat.reduceLT, Int.reduceLT, Int.reduceLE, Int.reduceEq, Int.reduceToNat, reduceCtorEq, FB, ED, FT, cx_impl_StepCore, hw, hw2, hcap, hcap2, and_self, hp, cl_impl_copyCore, hk, cl_impl_wordAt, hD, cl_impl_CoreOk, ho, cl_impl_usesMem, sem_impl_usesMem, memF, cl_impl_ValOk, sem_impl_ValOk, cl_impl_Calc, sem_impl_Calc, cl_impl_Denied, sem_impl_Denied, cl_impl_Negated, sem_impl_Negated, decide_true, decide_false, Bool.not_true, Bool.not_false, Bool.true_and, Bool.false_and, Bool.and_true, Bool.and_false, Bool.true_or, Bool.false_or, Bool.or_false, Bool.or_true, hpn', getRow _ _ hpn, getRow _ _ har, getRow _ _ hbr, har, hbr, har', hbr', hga, hgb, hss, stepG, true_or, or_true, false_or, or_false, or_self]
  · have e : stepF ⟨rs, pc, pr⟩ t m = (⟨rs, pc, pr⟩, m, 4) := by
      simp only [stepF]
      rw [if_neg (by rintro ⟨_, h, _⟩; exact hp h)]
    have hD := sem_impl_wordAt t pc ht
    simp only [wordR, if_neg hp] at hD
    cases hc : coreOkF ⟨rs, pc, pr⟩ <;> simp only [hc] at ho
    all_goals simp (maxSteps := 10000000) (disch := first | assumption | omega) only [cCore, F_impl_StepCore, params, EG, EL, ↓reduceIte, Nat.reduceEqDiff, Nat.reduceAdd, Nat.reduceSub, Nat.reduceMul, Nat.reduceLeDiff, Nat.reduceLT, Int.reduceLT, Int.reduceLE, Int.reduceEq, Int.reduceToNat, reduceCtorEq, FB, ED, FT, cx_impl_StepCore, hw, hw2, hcap, hcap2, and_self, hp, cl_impl_copyCore, hk, cl_impl_wordAt, hD, cl_impl_CoreOk, ho, cl_impl_usesMem, sem_impl_usesMem, memF, cl_impl_ValOk, sem_impl_ValOk, cl_impl_Calc, sem_impl_Calc, cl_impl_Denied, sem_impl_Denied, cl_impl_Negated, sem_impl_Negated, decide_true, decide_false, Bool.not_true, Bool.not_false, Bool.true_and, Bool.false_and, Bool.and_true, Bool.and_false, Bool.true_or, Bool.false_or, Bool.or_false, Bool.or_true, e]
theorem stepG_len {x : DCore} {m : List Int} {op : Int} {a b c : Nat} : (stepG x m op a b c).1.Regs.length = x.Regs.length ∧ (stepG x m op a b c).2.1.length = m.length := by
  unfold stepG
  dsimp only
  repeat' split
  all_goals first | exact ⟨rfl, rfl⟩ | (simp only [List.length_set]; exact ⟨rfl, rfl⟩) | simp
theorem stepF_regs {x : DCore} {t m : List Int} : (stepF x t m).1.Regs.length = x.Regs.length := by
  unfold stepF; split
  · exact stepG_len.1
  · rfl
theorem stepF_mem {x : DCore} {t m : List Int} : (stepF x t m).2.1.length = m.length := by
  unfold stepF; split
  · exact stepG_len.2
  · rfl
def nV (m : DMonitor) : Nat := m.Vars.length
def nP (q : DProcess) : Nat := q.Vars.length + 2
def pv (p : DProgram) (k : Nat) : Nat := match p.Processes[k]? with | some q => q.Vars.length | none => 0
theorem pv_eq {p : DProgram} {k : Nat} (h : k < p.Processes.length) : pv p k = p.Processes[k].Vars.length := by simp [pv, h]
def procIn (p : DProgram) (k : Int) : Prop := 0 ≤ k ∧ k ≤ (p.Processes.length : Int) - 1
instance (p : DProgram) (k : Int) : Decidable (procIn p k) := inferInstanceAs (Decidable (_ ∧ _))
def varAt (p : DProgram) (k i : Int) : Int := if (0 ≤ k ∧ k ≤ (p.Processes.length : Int) - 1) ∧ (0 ≤ i ∧ i ≤ (pv p k.toNat : Int)) then ((1 + tot nV p.Monitors + tot nP (p.Processes.take k.toNat) : Nat) : Int) + i else -1
theorem tot_drop {α : Type} {f : α → Nat} {xs : List α} {i : Nat} (h : i < xs.length) : tot f (xs.drop i) = f xs[i] + tot f (xs.drop (i + 1)) := by
  rw [List.drop_eq_getElem_cons h]; rfl
theorem totTake_le {α : Type} {f : α → Nat} : ∀ {xs : List α} {n : Nat}, tot f (xs.take n) ≤ tot f xs
  | [], n => by simp
  | x :: xs, 0 => by simp [tot]
  | x :: xs, n + 1 => by have := @totTake_le α f xs n; simp only [List.take_succ_cons, tot]; omega
theorem tot_mono {α : Type} {f g : α → Nat} (h : ∀ x, f x ≤ g x) : ∀ {xs : List α}, tot f xs ≤ tot g xs
  | [] => Nat.le_refl _
  | x :: xs => by have := @tot_mono _ _ _ h xs; have := h x; simp only [tot]; omega
theorem tot_nP : ∀ {xs : List DProcess}, tot nP xs ≤ tot wtProcess xs + 2 * xs.length
  | [] => Nat.le_refl _
  | x :: xs => by have := @tot_nP xs; simp only [tot, nP, wtProcess, List.length_cons]; omega
theorem tot_nV {xs : List DMonitor} : tot nV xs ≤ tot wtMonitor xs := tot_mono fun x => by unfold nV wtMonitor; omega
def atsF (p : DProgram) (k : Int) : List ByteArray → Nat → List Int
  | [], _ => []
  | _ :: r, i => varAt p k i :: atsF p k r (i + 1)
def varsOf (p : DProgram) (k : Nat) : List ByteArray := match p.Processes[k]? with | some q => q.Vars | none => []
theorem varsOf_eq {p : DProgram} {k : Nat} (h : k < p.Processes.length) : varsOf p k = p.Processes[k].Vars := by simp [varsOf, h]
def ownPlaces (p : DProgram) (k : Int) : DPlaces := if 0 ≤ k ∧ k ≤ (p.Processes.length : Int) - 1 then ⟨varsOf p k.toNat, atsF p k (varsOf p k.toNat) 0⟩ else ⟨[], []⟩
theorem atsF_len {p : DProgram} {k : Int} : ∀ {xs : List ByteArray} {i : Nat}, (atsF p k xs i).length = xs.length
  | [], _ => rfl
  | x :: xs, i => by simp only [atsF, List.length_cons, @atsF_len p k xs (i + 1)]
theorem ownPlaces_wt {p : DProgram} {k : Int} : wtPlaces (ownPlaces p k) ≤ 2 * tot wtProcess p.Processes := by
  unfold ownPlaces
  split
  · simp only [wtPlaces, atsF_len]
    unfold varsOf
    cases h : p.Processes[k.toNat]? with
    | none => simp [tot]
    | some q =>
      have := le_tot wtProcess (List.mem_of_getElem? h)
      simp only [wtProcess] at this
      simp only; omega
  · simp [wtPlaces, tot]
def mv (p : DProgram) (k : Nat) : Nat := match p.Monitors[k]? with | some q => q.Vars.length | none => 0
theorem mv_eq {p : DProgram} {k : Nat} (h : k < p.Monitors.length) : mv p k = p.Monitors[k].Vars.length := by simp [mv, h]
def sharedAt (p : DProgram) (k i : Int) : Int := if (0 ≤ k ∧ k ≤ (p.Monitors.length : Int) - 1) ∧ (0 ≤ i ∧ i ≤ (mv p k.toNat : Int) - 1) then ((1 + tot nV (p.Monitors.take k.toNat) : Nat) : Int) + i else -1
def argAt (p : DProgram) (k : Int) : Int := if 0 ≤ k ∧ k ≤ (p.Processes.length : Int) - 1 then varAt p k (pv p k.toNat) else -1
def resultAt (p : DProgram) (k : Int) : Int := if argAt p k < 0 then -1 else IntKind.wrap .i64 (argAt p k + 1)
theorem nV_lt {p : DProgram} {k : Nat} (h : k < p.Monitors.length) : p.Monitors[k].Vars.length + tot nV (p.Monitors.take k) ≤ tot nV p.Monitors := by
  have := @tot_take _ nV p.Monitors k h
  have : nV p.Monitors[k] = p.Monitors[k].Vars.length := rfl
  omega
def satsF (p : DProgram) (m : Int) : List ByteArray → Nat → List Int
  | [], _ => []
  | _ :: r, i => sharedAt p m i :: satsF p m r (i + 1)
def mvars (p : DProgram) (m : Nat) : List ByteArray := match p.Monitors[m]? with | some q => q.Vars | none => []
def ents (p : DProgram) (m : Nat) : List DEntry := match p.Monitors[m]? with | some q => q.Entries | none => []
def paramOf (p : DProgram) (m n : Nat) : ByteArray := match (ents p m)[n]? with | some q => q.Param | none => ⟨#[]⟩
theorem mvars_eq {p : DProgram} {m : Nat} (h : m < p.Monitors.length) : mvars p m = p.Monitors[m].Vars := by simp [mvars, h]
theorem ents_eq {p : DProgram} {m : Nat} (h : m < p.Monitors.length) : ents p m = p.Monitors[m].Entries := by simp [ents, h]
theorem param_eq {p : DProgram} {m n : Nat} (h : m < p.Monitors.length) (h2 : n < p.Monitors[m].Entries.length) : paramOf p m n = p.Monitors[m].Entries[n].Param := by
  unfold paramOf; rw [ents_eq h]; simp [h2]
def resB : ByteArray := ⟨#[114, 101, 115, 117, 108, 116]⟩
def entryPlaces (p : DProgram) (k m n : Int) : DPlaces :=
  if (0 ≤ k ∧ k ≤ (p.Processes.length : Int) - 1) ∧ (0 ≤ m ∧ m ≤ (p.Monitors.length : Int) - 1) ∧ (0 ≤ n ∧ n ≤ ((ents p m.toNat).length : Int) - 1) then ⟨[paramOf p m.toNat n.toNat, resB] ++ mvars p m.toNat, [argAt p k, resultAt p k] ++ satsF p m (mvars p m.toNat) 0⟩ else ⟨[], []⟩
theorem satsF_len {p : DProgram} {k : Int} : ∀ {xs : List ByteArray} {i : Nat}, (satsF p k xs i).length = xs.length
  | [], _ => rfl
  | x :: xs, i => by simp only [satsF, List.length_cons, @satsF_len p k xs (i + 1)]
theorem entryPlaces_wt {p : DProgram} {k m n : Int} : wtPlaces (entryPlaces p k m n) ≤ 3 * tot wtMonitor p.Monitors + 100 := by
  unfold entryPlaces
  split
  · simp only [wtPlaces, List.length_append, satsF_len, List.length_cons, List.length_nil, List.cons_append, List.nil_append, tot]
    have hr : wtS resB = 6 := rfl
    unfold paramOf mvars ents
    cases h : p.Monitors[m.toNat]? with
    | none => simp [tot, wtS] at *; omega
    | some q =>
      have h1 := le_tot wtMonitor (List.mem_of_getElem? h)
      simp only [wtMonitor] at h1
      simp only
      cases h2 : q.Entries[n.toNat]? with
      | none =>
        have : wtS (⟨#[]⟩ : ByteArray) = 0 := rfl
        simp only; omega
      | some e =>
        have h3 := le_tot wtEntry (List.mem_of_getElem? h2)
        simp only [wtEntry] at h3
        have : wtS e.Param = e.Param.size := rfl
        simp only; omega
  · simp [wtPlaces, tot]
def placesRun : List Unit → Cur → List Int → List Int
  | [], _, out => out
  | _ :: n, c, out => placesRun n (belowF 10000 c).2 (out ++ [(belowF 10000 c).1])
theorem placesRun_len : ∀ {n : List Unit} {c : Cur} {out : List Int}, (placesRun n c out).length = out.length + n.length
  | [], _, _ => by simp [placesRun]
  | _ :: n, c, out => by simp only [placesRun, placesRun_len (n := n), List.length_append, List.length_cons, List.length_nil]; omega
theorem placesRun_bd : ∀ {n : List Unit} {c : Cur} {out : List Int}, (∀ x ∈ out, 0 ≤ x ∧ x < 10000) → ∀ x ∈ placesRun n c out, 0 ≤ x ∧ x < 10000
  | [], _, _, h => h
  | _ :: n, c, out, h => by
    simp only [placesRun]
    refine placesRun_bd fun x hx => ?_
    rcases List.mem_append.1 hx with hx | hx
    · exact h x hx
    · rw [List.mem_singleton] at hx; rw [hx]; exact belowF_bd (by decide)
def drawPlaces (bs : List UInt8) : List Int := placesRun (List.replicate 12 ()) (byteF (curNew bs)).2 []
theorem drawPlaces_len {bs : List UInt8} : (drawPlaces bs).length = 12 := by unfold drawPlaces; rw [placesRun_len]; rfl
theorem drawPlaces_bd {bs : List UInt8} : ∀ x ∈ drawPlaces bs, 0 ≤ x ∧ x < 10000 := placesRun_bd (by simp)
theorem loop_DrawPlaces (xs : List Unit) (hxs : xs.length = 12) (c0 : Cur) (out0 : List Int) (ho : out0.length ≤ 100) (hb : c0.b.length ≤ 1048576) : loopV X_spec_DrawPlaces 0 [3, 4, 5] [(1, [4])] B0_spec_DrawPlaces ⟨[(3, .ptr ⟨0, none, 0⟩ 3 0 0), (4, .sl ⟨1, none, 0⟩ 1 0 out0.length), (5, .int .i64 0)], [some ⟨true, 0, 3, [[.tree 1 (c0.b.map cY), .int .i64 (c0.i : Int), .int .i64 c0.h]]⟩, some ⟨false, 0, 1, out0.map cI⟩]⟩ = some (.exit 0, ⟨[(4, .sl ⟨0, none, 0⟩ 1 0 (placesRun xs c0 out0).length)], [some ⟨false, 0, 1, (placesRun xs c0 out0).map cI⟩]⟩) := by
  refine loop_list xs (fun i (a : Cur × List Int) => a.1.b.length ≤ 1048576 ∧ a.2.length ≤ 100 + i) (fun i a => ⟨[(3, .ptr ⟨0, none, 0⟩ 3 0 0), (4, .sl ⟨1, none, 0⟩ 1 0 a.2.length), (5, .int .i64 ((i : Nat) : Int))], [some ⟨true, 0, 3, [[.tree 1 (a.1.b.map cY), .int .i64 (a.1.i : Int), .int .i64 a.1.h]]⟩, some ⟨false, 0, 1, a.2.map cI⟩]⟩)
    (fun rest a => some (.exit 0, ⟨[(4, .sl ⟨0, none, 0⟩ 1 0 (placesRun rest a.1 a.2).length)], [some ⟨false, 0, 1, (placesRun rest a.1 a.2).map cI⟩]⟩)) ?_ ?_ (c0, out0) ⟨hb, by simp only; omega⟩
  · rintro ⟨c, out⟩ ⟨hb, ho⟩
    have h12 : ((xs.length : Nat) : Int) = 12 := by omega
    rw [loopV_by B0_spec_DrawPlaces.eq_1]
    simp (maxSteps := 10000000) (disch := first | assumption | omega) only [EG, EL, ↓reduceIte, Nat.reduceEqDiff, Nat.reduceAdd, Nat.reduceSub, Nat.reduceMul, Nat.reduceLeDiff, Nat.reduceLT, Int.reduceLT, Int.reduceLE, Int.reduceEq, Int.reduceToNat, reduceCtorEq, FB, ED, EF, FT, cx_spec_DrawPlaces, h12, placesRun]
  · rintro i hi0 y rest ⟨c, out⟩ rfl rfl ⟨hb, ho⟩ ih
    simp only at hb ho ih
    have h12 : (i : Int) < 12 := by omega
    have hc : (out.length + 1) * 8 ≤ 70368744177664 := by omega
    have i1 := ih ((belowF 10000 c).2, out ++ [(belowF 10000 c).1]) ⟨by rw [belowF_b]; exact hb, by simp only [List.length_append, List.length_singleton]; omega⟩
    simp only [EG, EL, ↓reduceIte, Nat.reduceEqDiff, Nat.reduceAdd, Nat.reduceSub, Nat.reduceMul, Nat.reduceLeDiff, Nat.reduceLT, Int.reduceLT, Int.reduceLE, Int.reduceEq, Int.reduceToNat, reduceCtorEq, FB] at i1
    rw [loopV_by B0_spec_DrawPlaces.eq_1]
    simp (maxSteps := 10000000) (disch := first | assumption | omega) only [EG, EL, ↓reduceIte, Nat.reduceEqDiff, Nat.reduceAdd, Nat.reduceSub, Nat.reduceMul, Nat.reduceLeDiff, Nat.reduceLT, Int.reduceLT, Int.reduceLE, Int.reduceEq, Int.reduceToNat, reduceCtorEq, FB, ED, EF, FT, cx_spec_DrawPlaces, cl_spec_l01Below, fsem_spec_l01Below, h12, hc, wrap_succ, map_cI_snoc, placesRun, i1]
theorem sem_spec_DrawPlaces (bs : List UInt8) (hb : bs.length ≤ 1048576) : S_spec_DrawPlaces.sem [.tree 1 (bs.map cY)] = some (.tree 1 ((drawPlaces bs).map cI), []) := by
  have hb' : (curNew bs).b.length ≤ 1048576 := hb
  have hd : placesRun (List.replicate 12 ()) (byteF (curNew bs)).2 [] = drawPlaces bs := rfl
  have l := loop_DrawPlaces (List.replicate 12 ()) (by simp) (byteF (curNew bs)).2 [] (by simp) (by rw [byteF_b]; exact hb')
  rw [hd] at l
  simp only [List.map_nil, List.length_nil] at l
  rw [sg_spec_DrawPlaces, sem_go]
  simp (maxSteps := 10000000) (disch := first | assumption | omega) only [F_spec_DrawPlaces, params, EG, EL, ↓reduceIte, Nat.reduceEqDiff, Nat.reduceAdd, Nat.reduceSub, Nat.reduceMul, Nat.reduceLeDiff, Nat.reduceLT, Int.reduceLT, Int.reduceLE, Int.reduceEq, Int.reduceToNat, reduceCtorEq, FB, ED, EF, FT, cx_spec_DrawPlaces, cl_spec_l01New, fsem_spec_l01New, cl_spec_l01Byte, fsem_spec_l01Byte, hb', l]
theorem sem_laws_big (bs : List UInt8) : S_laws_big.sem [.tree 1 (bs.map cY)] = some (.bool (decide (1048576 < (bs.length : Int))), []) := by
  rw [sg_laws_big, sem_go]
  simp (maxSteps := 10000000) (disch := first | assumption | omega) only [F_laws_big, params, EG, EL, ↓reduceIte, Nat.reduceEqDiff, Nat.reduceAdd, Nat.reduceSub, Nat.reduceMul, Nat.reduceLeDiff, Nat.reduceLT, Int.reduceLT, Int.reduceLE, Int.reduceEq, Int.reduceToNat, reduceCtorEq, FB, ED, cx_laws_big, gt_iff_lt]
/-! what is drawn: numbers, words, cores -/
def cC (c : Cur) : Option Blk := some ⟨true, 0, 3, [[.tree 1 (c.b.map cY), .int .i64 (c.i : Int), .int .i64 c.h]]⟩
def pickF (l : List Int) (c : Cur) : Int × Cur := (l.getD (belowF l.length c).1.toNat 0, (belowF l.length c).2)
theorem pickF_b {l : List Int} {c : Cur} : (pickF l c).2.b = c.b := belowF_b
theorem pickF_mem {l : List Int} {c : Cur} (h : 0 < l.length) : (pickF l c).1 ∈ l := by
  have hb := @belowF_bd (l.length : Int) c (by omega)
  unfold pickF
  have hi : (belowF l.length c).1.toNat < l.length := by omega
  rw [List.getD_eq_getElem?_getD, List.getElem?_eq_getElem hi]
  exact List.getElem_mem hi
def placeF (n : Int) (c : Cur) : Int × Cur := if (belowF 15 c).1 = 0 then pickF [-1, n, IntKind.wrap .i64 (n + 1), 9223372036854775807, -9223372036854775808] (belowF 15 c).2 else belowF n (belowF 15 c).2
theorem placeF_b {n : Int} {c : Cur} : (placeF n c).2.b = c.b := by
  unfold placeF; split
  · rw [pickF_b, belowF_b]
  · rw [belowF_b, belowF_b]
theorem fsem_spec_l01Once (c : Cur) (n : Int) (hb : c.b.length ≤ 1048576) : H_spec_l01Once [.ptr ⟨0, none, 0⟩ 3 0 0, .int .i64 n] [some ⟨true, 0, 3, [[.tree 1 (c.b.map cY), .int .i64 (c.i : Int), .int .i64 c.h]]⟩] = some (.bool (decide ((belowF n c).1 = 0)), [some ⟨true, 0, 3, [[.tree 1 ((belowF n c).2.b.map cY), .int .i64 ((belowF n c).2.i : Int), .int .i64 (belowF n c).2.h]]⟩]) := by
  rw [sh_spec_l01Once, run_goF]
  simp (maxSteps := 10000000) (disch := first | assumption | omega) only [F_spec_l01Once, params, EG, EL, ↓reduceIte, Nat.reduceEqDiff, Nat.reduceAdd, Nat.reduceSub, Nat.reduceMul, Nat.reduceLeDiff, Nat.reduceLT, Int.reduceLT, Int.reduceLE, Int.reduceEq, Int.reduceToNat, reduceCtorEq, FB, ED, EF, FT, cx_spec_l01Once, cl_spec_l01Below, fsem_spec_l01Below]
theorem fsem_spec_l01PickInt (l : List Int) (h0 : 0 < l.length) (hl : l.length ≤ 1000) (c : Cur) (hb : c.b.length ≤ 1048576) : H_spec_l01PickInt [.ptr ⟨0, none, 0⟩ 3 0 0, .sl ⟨1, none, 0⟩ 1 0 l.length] [some ⟨true, 0, 3, [[.tree 1 (c.b.map cY), .int .i64 (c.i : Int), .int .i64 c.h]]⟩, some ⟨false, 0, 1, l.map cI⟩] = some (.int .i64 (pickF l c).1, [some ⟨true, 0, 3, [[.tree 1 ((pickF l c).2.b.map cY), .int .i64 ((pickF l c).2.i : Int), .int .i64 (pickF l c).2.h]]⟩, some ⟨false, 0, 1, l.map cI⟩]) := by
  have hd := @belowF_bd (l.length : Int) c (by omega)
  have hi : (belowF l.length c).1.toNat < l.length := by omega
  have hg := getRow cI l hi
  have hp : pickF l c = (l[(belowF l.length c).1.toNat], (belowF l.length c).2) := by
    unfold pickF
    rw [List.getD_eq_getElem?_getD, List.getElem?_eq_getElem hi]; rfl
  rw [sh_spec_l01PickInt, run_goF, hp]
  simp (maxSteps := 10000000) (disch := first | assumption | omega) only [F_spec_l01PickInt, params, EG, EL, ↓reduceIte, Nat.reduceEqDiff, Nat.reduceAdd, Nat.reduceSub, Nat.reduceMul, Nat.reduceLeDiff, Nat.reduceLT, Int.reduceLT, Int.reduceLE, Int.reduceEq, Int.reduceToNat, reduceCtorEq, FB, ED, EF, FT, cx_spec_l01PickInt, cl_spec_l01Below, fsem_spec_l01Below, hd, hi, hg]
theorem fsem_spec_l01Place (c : Cur) (n : Int) (hb : c.b.length ≤ 1048576) : H_spec_l01Place [.ptr ⟨0, none, 0⟩ 3 0 0, .int .i64 n] [some ⟨true, 0, 3, [[.tree 1 (c.b.map cY), .int .i64 (c.i : Int), .int .i64 c.h]]⟩] = some (.int .i64 (placeF n c).1, [some ⟨true, 0, 3, [[.tree 1 ((placeF n c).2.b.map cY), .int .i64 ((placeF n c).2.i : Int), .int .i64 (placeF n c).2.h]]⟩]) := by
  have b1 : (belowF 15 c).2.b.length ≤ 1048576 := by rw [belowF_b]; exact hb
  have p1 := fsem_spec_l01PickInt [-1, n, IntKind.wrap .i64 (n + 1), 9223372036854775807, -9223372036854775808] (by simp) (by simp)
  simp only [EG, EL, ↓reduceIte, Nat.reduceEqDiff, Nat.reduceAdd, Nat.reduceSub, Nat.reduceMul, Nat.reduceLeDiff, Nat.reduceLT, Int.reduceLT, Int.reduceLE, Int.reduceEq, Int.reduceToNat, reduceCtorEq, FB] at p1
  rw [sh_spec_l01Place, run_goF]
  unfold placeF
  by_cases h : (belowF 15 c).1 = 0
  all_goals simp (maxSteps := 10000000) (disch := first | assumption | omega) only [F_spec_l01Place, params, EG, EL, ↓reduceIte, Nat.reduceEqDiff, Nat.reduceAdd, Nat.reduceSub, Nat.reduceMul, Nat.reduceLeDiff, Nat.reduceLT, Int.reduceLT, Int.reduceLE, Int.reduceEq, Int.reduceToNat, reduceCtorEq, FB, ED, EF, FT, cx_spec_l01Place, cl_spec_l01Once, fsem_spec_l01Once, cl_spec_l01PickInt, p1, cl_spec_l01Below, fsem_spec_l01Below, h, decide_true, decide_false]
def l14F (c : Cur) : DIns × Cur :=
  if (belowF 10 c).1 = 0 then (⟨1, (belowF 8 (belowF 10 c).2).1, 0, (pickF [0, 1, 7, 1000000] (belowF 8 (belowF 10 c).2).2).1⟩, (pickF [0, 1, 7, 1000000] (belowF 8 (belowF 10 c).2).2).2)
  else if (belowF 10 c).1 = 3 then (⟨4, (belowF 8 (belowF 10 c).2).1, (belowF 8 (belowF 8 (belowF 10 c).2).2).1, 1 + (belowF 9 (belowF 8 (belowF 8 (belowF 10 c).2).2).2).1⟩, (belowF 9 (belowF 8 (belowF 8 (belowF 10 c).2).2).2).2)
  else if (belowF 10 c).1 = 4 ∨ (belowF 10 c).1 = 5 then (⟨1 + (belowF 10 c).1, (belowF 8 (belowF 10 c).2).1, 0, 0⟩, (belowF 8 (belowF 10 c).2).2)
  else if (belowF 10 c).1 = 7 then (⟨8, 0, 0, (belowF 20 (belowF 8 (belowF 10 c).2).2).1⟩, (belowF 20 (belowF 8 (belowF 10 c).2).2).2)
  else if (belowF 10 c).1 = 9 then (⟨10, 1 + (belowF 7 (belowF 8 (belowF 10 c).2).2).1, 0, (belowF 5 (belowF 7 (belowF 8 (belowF 10 c).2).2).2).1⟩, (belowF 5 (belowF 7 (belowF 8 (belowF 10 c).2).2).2).2)
  else (⟨1 + (belowF 10 c).1, (belowF 8 (belowF 10 c).2).1, 0, (belowF 30 (belowF 8 (belowF 10 c).2).2).1⟩, (belowF 30 (belowF 8 (belowF 10 c).2).2).2)
theorem l14F_b {c : Cur} : (l14F c).2.b = c.b := by
  unfold l14F
  (repeat' split) <;> simp only [belowF_b, pickF_b]
theorem l14F_ok {c : Cur} : insOk (l14F c).1.Op (l14F c).1.A (l14F c).1.B (l14F c).1.C = true := by
  have d1 := @belowF_bd 10 c (by decide)
  have d2 := @belowF_bd 8 (belowF 10 c).2 (by decide)
  unfold l14F
  split
  · have := @pickF_mem [0, 1, 7, 1000000] (belowF 8 (belowF 10 c).2).2 (by simp)
    simp only [List.mem_cons, List.mem_nil_iff, or_false] at this
    unfold insOk; apply decide_eq_true; dsimp only; omega
  · split
    · have d3 := @belowF_bd 8 (belowF 8 (belowF 10 c).2).2 (by decide)
      have d4 := @belowF_bd 9 (belowF 8 (belowF 8 (belowF 10 c).2).2).2 (by decide)
      unfold insOk; apply decide_eq_true; dsimp only; omega
    · split
      · unfold insOk; apply decide_eq_true; dsimp only; omega
      · split
        · have d3 := @belowF_bd 20 (belowF 8 (belowF 10 c).2).2 (by decide)
          unfold insOk; apply decide_eq_true; dsimp only; omega
        · split
          · have d3 := @belowF_bd 7 (belowF 8 (belowF 10 c).2).2 (by decide)
            have d4 := @belowF_bd 5 (belowF 7 (belowF 8 (belowF 10 c).2).2).2 (by decide)
            unfold insOk; apply decide_eq_true; dsimp only; omega
          · have d3 := @belowF_bd 30 (belowF 8 (belowF 10 c).2).2 (by decide)
            unfold insOk; apply decide_eq_true; dsimp only; omega
set_option maxHeartbeats 2000000 in
theorem fsem_spec_l14Ins (c : Cur) (hb : c.b.length ≤ 1048576) : H_spec_l14Ins [.ptr ⟨0, none, 0⟩ 3 0 0] [some ⟨true, 0, 3, [[.tree 1 (c.b.map cY), .int .i64 (c.i : Int), .int .i64 c.h]]⟩] = some (.agg [.int .i64 (l14F c).1.Op, .int .i64 (l14F c).1.A, .int .i64 (l14F c).1.B, .int .i64 (l14F c).1.C], [some ⟨true, 0, 3, [[.tree 1 ((l14F c).2.b.map cY), .int .i64 ((l14F c).2.i : Int), .int .i64 (l14F c).2.h]]⟩]) := by
  have b1 : (belowF 10 c).2.b.length ≤ 1048576 := by rw [belowF_b]; exact hb
  have b2 : (belowF 8 (belowF 10 c).2).2.b.length ≤ 1048576 := by rw [belowF_b]; exact b1
  have b3 : (belowF 8 (belowF 8 (belowF 10 c).2).2).2.b.length ≤ 1048576 := by rw [belowF_b]; exact b2
  have b4 : (belowF 7 (belowF 8 (belowF 10 c).2).2).2.b.length ≤ 1048576 := by rw [belowF_b]; exact b2
  have p1 := fsem_spec_l01PickInt [0, 1, 7, 1000000] (by simp) (by simp)
  simp only [EG, EL, ↓reduceIte, Nat.reduceEqDiff, Nat.reduceAdd, Nat.reduceSub, Nat.reduceMul, Nat.reduceLeDiff, Nat.reduceLT, Int.reduceLT, Int.reduceLE, Int.reduceEq, Int.reduceToNat, reduceCtorEq, FB] at p1
  have d1 := @belowF_bd 10 c (by decide)
  have d3 := @belowF_bd 9 (belowF 8 (belowF 8 (belowF 10 c).2).2).2 (by decide)
  have d4 := @belowF_bd 7 (belowF 8 (belowF 10 c).2).2 (by decide)
  have hk : (belowF 10 c).1 = 0 ∨ (belowF 10 c).1 = 1 ∨ (belowF 10 c).1 = 2 ∨ (belowF 10 c).1 = 3 ∨ (belowF 10 c).1 = 4 ∨ (belowF 10 c).1 = 5 ∨ (belowF 10 c).1 = 6 ∨ (belowF 10 c).1 = 7 ∨ (belowF 10 c).1 = 8 ∨ (belowF 10 c).1 = 9 := by omega
  rw [sh_spec_l14Ins, run_goF]
  rcases hk with hk | hk | hk | hk | hk | hk | hk | hk | hk | hk
  all_goals simp (maxSteps := 10000000) (disch := first | assumption | omega) only [F_spec_l14Ins, params, EG, EL, ↓reduceIte, Nat.reduceEqDiff, Nat.reduceAdd, Nat.reduceSub, Nat.reduceMul, Nat.reduceLeDiff, Nat.reduceLT, Int.reduceLT, Int.reduceLE, Int.reduceEq, Int.reduceToNat, reduceCtorEq, FB, ED, EF, FT, cx_spec_l14Ins, cl_spec_l01Below, fsem_spec_l01Below, cl_spec_l01PickInt, p1, l14F, hk, Int.reduceAdd, wrapI, decide_true, decide_false, true_or, or_true, or_false, false_or]
theorem sh28 {x : Int} : bin .shl (.int .i64 x) (.int .u64 28) = some (.int .i64 (IntKind.wrap .i64 (x * 268435456))) := rfl
theorem sh25 {x : Int} : bin .shl (.int .i64 x) (.int .u64 25) = some (.int .i64 (IntKind.wrap .i64 (x * 33554432))) := rfl
theorem sh22 {x : Int} : bin .shl (.int .i64 x) (.int .u64 22) = some (.int .i64 (IntKind.wrap .i64 (x * 4194304))) := rfl
def encN (op a b c : Int) : Int := op * 268435456 + a * 33554432 + b * 4194304 + c
def encF (op a b c : Int) : Int := if insOk op a b c = true then encN op a b c else 0
theorem insOk_bd {op a b c : Int} (h : insOk op a b c = true) : (1 ≤ op ∧ op ≤ 10) ∧ (0 ≤ a ∧ a ≤ 7) ∧ (0 ≤ b ∧ b ≤ 7) ∧ (0 ≤ c ∧ c ≤ 4194303) := by
  unfold insOk at h
  have := of_decide_eq_true h
  exact ⟨this.1, this.2.1, this.2.2.1, this.2.2.2.1⟩
theorem sem_spec_Encode (op a b c : Int) : S_spec_Encode.sem [.agg [.int .i64 op, .int .i64 a, .int .i64 b, .int .i64 c]] = some (.tup [.int .i64 (encF op a b c), .bool (insOk op a b c)], []) := by
  rw [sg_spec_Encode, sem_go]
  unfold encF
  cases h : insOk op a b c
  · simp (maxSteps := 10000000) (disch := first | assumption | omega) only [F_spec_Encode, params, EG, EL, ↓reduceIte, Nat.reduceEqDiff, Nat.reduceAdd, Nat.reduceSub, Nat.reduceMul, Nat.reduceLeDiff, Nat.reduceLT, Int.reduceLT, Int.reduceLE, Int.reduceEq, Int.reduceToNat, reduceCtorEq, FB, ED, FT, cx_spec_Encode, cl_spec_InsOk, sem_spec_InsOk, h]
  · have hb := insOk_bd h
    simp (maxSteps := 10000000) (disch := first | assumption | omega) only [F_spec_Encode, params, EG, EL, ↓reduceIte, Nat.reduceEqDiff, Nat.reduceAdd, Nat.reduceSub, Nat.reduceMul, Nat.reduceLeDiff, Nat.reduceLT, Int.reduceLT, Int.reduceLE, Int.reduceEq, Int.reduceToNat, reduceCtorEq, FB, ED, FT, cx_spec_Encode, cl_spec_InsOk, sem_spec_InsOk, h, sh28, sh25, sh22, wrapI, encN]
def textRun : List Unit → Nat → Cur → List Int → List Int × Cur
  | [], _, c, out => (out, (belowF 6 c).2)
  | _ :: n, i, c, out => if (i : Int) < 1 + (belowF 6 c).1 then textRun n (i + 1) (l14F (belowF 6 c).2).2 (out ++ [encF (l14F (belowF 6 c).2).1.Op (l14F (belowF 6 c).2).1.A (l14F (belowF 6 c).2).1.B (l14F (belowF 6 c).2).1.C]) else (out, (belowF 6 c).2)
theorem textRun_b : ∀ {n : List Unit} {i : Nat} {c : Cur} {out : List Int}, (textRun n i c out).2.b = c.b
  | [], _, _, _ => by simp only [textRun, belowF_b]
  | _ :: n, i, c, out => by
    simp only [textRun]
    split
    · rw [textRun_b, l14F_b, belowF_b]
    · exact belowF_b
theorem textRun_len : ∀ {n : List Unit} {i : Nat} {c : Cur} {out : List Int}, (textRun n i c out).1.length ≤ out.length + n.length
  | [], _, _, _ => Nat.le_refl _
  | _ :: n, i, c, out => by
    simp only [textRun]
    split
    · have := @textRun_len n (i + 1) (l14F (belowF 6 c).2).2 (out ++ [encF (l14F (belowF 6 c).2).1.Op (l14F (belowF 6 c).2).1.A (l14F (belowF 6 c).2).1.B (l14F (belowF 6 c).2).1.C])
      simp only [List.length_append, List.length_cons, List.length_nil] at this ⊢
      omega
    · simp only [List.length_cons]; omega
def l15T (c : Cur) : List Int × Cur := textRun (List.replicate 6 ()) 0 c []
theorem l15T_b {c : Cur} : (l15T c).2.b = c.b := textRun_b
theorem l15T_len {c : Cur} : (l15T c).1.length ≤ 6 := by
  have := @textRun_len (List.replicate 6 ()) 0 c []
  rw [List.length_replicate, List.length_nil] at this
  unfold l15T
  omega
def drawText (c : Cur) : List Int × Cur := if (belowF 8 (l15T c).2).1 = 0 then ((l15T c).1 ++ [(pickF [0, -1, 77] (belowF 8 (l15T c).2).2).1], (pickF [0, -1, 77] (belowF 8 (l15T c).2).2).2) else ((l15T c).1, (belowF 8 (l15T c).2).2)
theorem drawText_b {c : Cur} : (drawText c).2.b = c.b := by
  unfold drawText
  split
  · rw [pickF_b, belowF_b, l15T_b]
  · rw [belowF_b, l15T_b]
theorem drawText_len {c : Cur} : (drawText c).1.length ≤ 7 := by
  have := @l15T_len c
  unfold drawText
  split
  · simp only [List.length_append, List.length_singleton]; omega
  · simp only; omega
theorem loop_l15Text (xs : List Unit) (hxs : xs.length = 6) (c0 : Cur) (hb : c0.b.length ≤ 1048576) : loopV X_spec_l15Text 1 [0, 3, 4] [(1, [0, 3])] B0_spec_l15Text ⟨[(0, .ptr ⟨0, none, 0⟩ 3 0 0), (3, .sl ⟨1, none, 0⟩ 1 0 0), (4, .int .i64 0)], [some ⟨true, 0, 3, [[.tree 1 (c0.b.map cY), .int .i64 (c0.i : Int), .int .i64 c0.h]]⟩, some ⟨false, 0, 1, []⟩]⟩
    = some (.exit 0, ⟨[(0, .ptr ⟨0, none, 0⟩ 3 0 0), (3, .sl ⟨1, none, 0⟩ 1 0 (textRun xs 0 c0 []).1.length)], [some ⟨true, 0, 3, [[.tree 1 ((textRun xs 0 c0 []).2.b.map cY), .int .i64 ((textRun xs 0 c0 []).2.i : Int), .int .i64 (textRun xs 0 c0 []).2.h]]⟩, some ⟨false, 0, 1, (textRun xs 0 c0 []).1.map cI⟩]⟩) := by
  refine loop_list xs (fun i (a : Nat × Cur × List Int) => a.1 = i ∧ a.2.1.b.length ≤ 1048576 ∧ a.2.2.length ≤ i) (fun i a => ⟨[(0, .ptr ⟨0, none, 0⟩ 3 0 0), (3, .sl ⟨1, none, 0⟩ 1 0 a.2.2.length), (4, .int .i64 ((i : Nat) : Int))], [some ⟨true, 0, 3, [[.tree 1 (a.2.1.b.map cY), .int .i64 (a.2.1.i : Int), .int .i64 a.2.1.h]]⟩, some ⟨false, 0, 1, a.2.2.map cI⟩]⟩)
    (fun rest a => some (.exit 0, ⟨[(0, .ptr ⟨0, none, 0⟩ 3 0 0), (3, .sl ⟨1, none, 0⟩ 1 0 (textRun rest a.1 a.2.1 a.2.2).1.length)], [some ⟨true, 0, 3, [[.tree 1 ((textRun rest a.1 a.2.1 a.2.2).2.b.map cY), .int .i64 ((textRun rest a.1 a.2.1 a.2.2).2.i : Int), .int .i64 (textRun rest a.1 a.2.1 a.2.2).2.h]]⟩, some ⟨false, 0, 1, (textRun rest a.1 a.2.1 a.2.2).1.map cI⟩]⟩)) ?_ ?_ (0, c0, []) ⟨rfl, hb, Nat.le_refl _⟩
  · rintro ⟨i, c, out⟩ ⟨rfl, hb, ho⟩
    simp only at hb ho
    have hd := @belowF_bd 6 c (by decide)
    have hlt : ¬ ((xs.length : Nat) : Int) < 1 + (belowF 6 c).1 := by omega
    rw [loopV_by B0_spec_l15Text.eq_1]
    simp (maxSteps := 10000000) (disch := first | assumption | omega) only [EG, EL, ↓reduceIte, Nat.reduceEqDiff, Nat.reduceAdd, Nat.reduceSub, Nat.reduceMul, Nat.reduceLeDiff, Nat.reduceLT, Int.reduceLT, Int.reduceLE, Int.reduceEq, Int.reduceToNat, reduceCtorEq, FB, ED, EF, FT, cx_spec_l15Text, cl_spec_l01Below, fsem_spec_l01Below, wrapI, hlt, textRun]
  · rintro i hi0 y rest ⟨i, c, out⟩ rfl rfl ⟨rfl, hb, ho⟩ ih
    simp only at hb ho ih
    have hd := @belowF_bd 6 c (by decide)
    have b1 : (belowF 6 c).2.b.length ≤ 1048576 := by rw [belowF_b]; exact hb
    have hc : (out.length + 1) * 8 ≤ 70368744177664 := by omega
    have hw1 : IntKind.wrap .i64 (1 + (belowF 6 c).1) = 1 + (belowF 6 c).1 := wrapI (by omega) (by omega)
    rw [loopV_by B0_spec_l15Text.eq_1]
    by_cases hlt : (i : Int) < 1 + (belowF 6 c).1
    · have i1 := ih (i + 1, (l14F (belowF 6 c).2).2, out ++ [encF (l14F (belowF 6 c).2).1.Op (l14F (belowF 6 c).2).1.A (l14F (belowF 6 c).2).1.B (l14F (belowF 6 c).2).1.C]) ⟨rfl, by rw [l14F_b]; exact b1, by simp only [List.length_append, List.length_singleton]; omega⟩
      simp only [EG, EL, ↓reduceIte, Nat.reduceEqDiff, Nat.reduceAdd, Nat.reduceSub, Nat.reduceMul, Nat.reduceLeDiff, Nat.reduceLT, Int.reduceLT, Int.reduceLE, Int.reduceEq, Int.reduceToNat, reduceCtorEq, FB] at i1
      simp (maxSteps := 10000000) (disch := first | assumption | omega) only [EG, EL, ↓reduceIte, Nat.reduceEqDiff, Nat.reduceAdd, Nat.reduceSub, Nat.reduceMul, Nat.reduceLeDiff, Nat.reduceLT, Int.reduceLT, Int.reduceLE, Int.reduceEq, Int.reduceToNat, reduceCtorEq, FB, ED, EF, FT, cx_spec_l15Text, cl_spec_l01Below, fsem_spec_l01Below, cl_spec_l14Ins, fsem_spec_l14Ins, cl_spec_Encode, sem_spec_Encode, wrap_succ, hw1, hlt, hc, map_cI_snoc, textRun, i1]
    · simp (maxSteps := 10000000) (disch := first | assumption | omega) only [EG, EL, ↓reduceIte, Nat.reduceEqDiff, Nat.reduceAdd, Nat.reduceSub, Nat.reduceMul, Nat.reduceLeDiff, Nat.reduceLT, Int.reduceLT, Int.reduceLE, Int.reduceEq, Int.reduceToNat, reduceCtorEq, FB, ED, EF, FT, cx_spec_l15Text, cl_spec_l01Below, fsem_spec_l01Below, wrapI, hlt, textRun]
theorem fsem_spec_l15Text (c : Cur) (hb : c.b.length ≤ 1048576) : H_spec_l15Text [.ptr ⟨0, none, 0⟩ 3 0 0] [some ⟨true, 0, 3, [[.tree 1 (c.b.map cY), .int .i64 (c.i : Int), .int .i64 c.h]]⟩] = some (.sl ⟨1, none, 0⟩ 1 0 (drawText c).1.length, [some ⟨true, 0, 3, [[.tree 1 ((drawText c).2.b.map cY), .int .i64 ((drawText c).2.i : Int), .int .i64 (drawText c).2.h]]⟩, some ⟨false, 0, 1, (drawText c).1.map cI⟩]) := by
  have l := loop_l15Text (List.replicate 6 ()) (by simp) c hb
  have hd : textRun (List.replicate 6 ()) 0 c [] = l15T c := rfl
  rw [hd] at l
  have hl := @l15T_len c
  have b1 : (l15T c).2.b.length ≤ 1048576 := by rw [l15T_b]; exact hb
  have b2 : (belowF 8 (l15T c).2).2.b.length ≤ 1048576 := by rw [belowF_b]; exact b1
  have hc : ((l15T c).1.length + 1) * 8 ≤ 70368744177664 := by omega
  have p1 := fsem_spec_l01PickInt [0, -1, 77] (by simp) (by simp)
  simp only [EG, EL, ↓reduceIte, Nat.reduceEqDiff, Nat.reduceAdd, Nat.reduceSub, Nat.reduceMul, Nat.reduceLeDiff, Nat.reduceLT, Int.reduceLT, Int.reduceLE, Int.reduceEq, Int.reduceToNat, reduceCtorEq, FB] at p1
  rw [sh_spec_l15Text, run_goF]
  unfold drawText
  by_cases h : (belowF 8 (l15T c).2).1 = 0
  all_goals simp (maxSteps := 10000000) (disch := first | assumption | omega) only [F_spec_l15Text, params, EG, EL, ↓reduceIte, Nat.reduceEqDiff, Nat.reduceAdd, Nat.reduceSub, Nat.reduceMul, Nat.reduceLeDiff, Nat.reduceLT, Int.reduceLT, Int.reduceLE, Int.reduceEq, Int.reduceToNat, reduceCtorEq, FB, ED, EF, FT, cx_spec_l15Text, l, cl_spec_l01Once, fsem_spec_l01Once, cl_spec_l01PickInt, p1, h, hc, map_cI_snoc, decide_true, decide_false]
def regRun : List Unit → Nat → Cur → List Int → List Int × Cur
  | [], _, c, out => (out, c)
  | _ :: n, i, c, out => regRun n (i + 1) (pickF [0, 1, 2, -1, 5, 999999] c).2 (out.set i (pickF [0, 1, 2, -1, 5, 999999] c).1)
theorem regRun_b : ∀ {n : List Unit} {i : Nat} {c : Cur} {out : List Int}, (regRun n i c out).2.b = c.b
  | [], _, _, _ => rfl
  | _ :: n, i, c, out => by simp only [regRun]; rw [regRun_b, pickF_b]
theorem regRun_len : ∀ {n : List Unit} {i : Nat} {c : Cur} {out : List Int}, (regRun n i c out).1.length = out.length
  | [], _, _, _ => rfl
  | _ :: n, i, c, out => by simp only [regRun]; rw [regRun_len, List.length_set]
def l15R (c : Cur) : List Int × Cur := regRun (List.replicate 8 ()) 0 c coreNew.Regs
theorem l15R_b {c : Cur} : (l15R c).2.b = c.b := regRun_b
theorem l15R_len {c : Cur} : (l15R c).1.length = 8 := by unfold l15R; rw [regRun_len]; rfl
/-- The registers, how many are left out, the place, the process, the cursor. -/
def l15A (c : Cur) : List Int × Nat × Int × Int × Cur :=
  let c1 := (l15R c).2
  let c2 := (belowF 6 c1).2
  let c3 := (belowF 5 c2).2
  let c4 := (belowF 12 c3).2
  if (belowF 12 c3).1 = 0 then ((l15R c).1, 1, (belowF 6 c1).1, (belowF 5 c2).1 - 1, c4)
  else if (belowF 12 c3).1 = 1 then ((l15R c).1.set 0 1000001, 0, (belowF 6 c1).1, (belowF 5 c2).1 - 1, c4)
  else if (belowF 12 c3).1 = 2 then ((l15R c).1, 0, (pickF [-1, 900, 9223372036854775807] c4).1, (belowF 5 c2).1 - 1, (pickF [-1, 900, 9223372036854775807] c4).2)
  else ((l15R c).1, 0, (belowF 6 c1).1, (belowF 5 c2).1 - 1, c4)
theorem l15A_b {c : Cur} : (l15A c).2.2.2.2.b = c.b := by
  unfold l15A
  simp only
  (repeat' split) <;> simp only [belowF_b, pickF_b, l15R_b]
theorem l15A_len {c : Cur} : (l15A c).1.length = 8 := by
  unfold l15A
  simp only
  (repeat' split) <;> simp only [List.length_set, l15R_len]
theorem l15A_off {c : Cur} : (l15A c).2.1 ≤ 1 := by
  unfold l15A
  simp only
  (repeat' split) <;> simp
theorem loop_l15Any (xs : List Unit) (hxs : xs.length = 8) (c0 : Cur) (hb : c0.b.length ≤ 1048576) (r0 : List Int) (hr : r0.length = 8) : loopV X_spec_l15Any 1 [0, 2, 3, 4] [(1, [0, 2, 3])] B0_spec_l15Any ⟨[(0, .ptr ⟨0, none, 0⟩ 3 0 0), (2, .ptr ⟨1, none, 0⟩ 3 0 0), (3, .ptr ⟨3, none, 0⟩ 3 0 0), (4, .int .i64 0)], [some ⟨true, 0, 3, [[.tree 1 (c0.b.map cY), .int .i64 (c0.i : Int), .int .i64 c0.h]]⟩, some ⟨true, 0, 3, [[.sl ⟨2, none, 0⟩ 1 0 0, .int .i64 0, .int .i64 0]]⟩, some ⟨false, 0, 1, []⟩, some ⟨true, 0, 3, [[.sl ⟨4, none, 0⟩ 1 0 r0.length, .int .i64 0, .int .i64 (-1)]]⟩, some ⟨false, 0, 1, r0.map cI⟩]⟩
    = some (.exit 0, ⟨[(0, .ptr ⟨0, none, 0⟩ 3 0 0), (2, .ptr ⟨1, none, 0⟩ 3 0 0), (3, .ptr ⟨3, none, 0⟩ 3 0 0)], [some ⟨true, 0, 3, [[.tree 1 ((regRun xs 0 c0 r0).2.b.map cY), .int .i64 ((regRun xs 0 c0 r0).2.i : Int), .int .i64 (regRun xs 0 c0 r0).2.h]]⟩, some ⟨true, 0, 3, [[.sl ⟨2, none, 0⟩ 1 0 0, .int .i64 0, .int .i64 0]]⟩, some ⟨false, 0, 1, []⟩, some ⟨true, 0, 3, [[.sl ⟨4, none, 0⟩ 1 0 (regRun xs 0 c0 r0).1.length, .int .i64 0, .int .i64 (-1)]]⟩, some ⟨false, 0, 1, (regRun xs 0 c0 r0).1.map cI⟩]⟩) := by
  refine loop_list xs (fun i (a : Nat × Cur × List Int) => a.1 = i ∧ a.2.1.b.length ≤ 1048576 ∧ a.2.2.length = 8) (fun i a => ⟨[(0, .ptr ⟨0, none, 0⟩ 3 0 0), (2, .ptr ⟨1, none, 0⟩ 3 0 0), (3, .ptr ⟨3, none, 0⟩ 3 0 0), (4, .int .i64 ((i : Nat) : Int))], [some ⟨true, 0, 3, [[.tree 1 (a.2.1.b.map cY), .int .i64 (a.2.1.i : Int), .int .i64 a.2.1.h]]⟩, some ⟨true, 0, 3, [[.sl ⟨2, none, 0⟩ 1 0 0, .int .i64 0, .int .i64 0]]⟩, some ⟨false, 0, 1, []⟩, some ⟨true, 0, 3, [[.sl ⟨4, none, 0⟩ 1 0 a.2.2.length, .int .i64 0, .int .i64 (-1)]]⟩, some ⟨false, 0, 1, a.2.2.map cI⟩]⟩)
    (fun rest a => some (.exit 0, ⟨[(0, .ptr ⟨0, none, 0⟩ 3 0 0), (2, .ptr ⟨1, none, 0⟩ 3 0 0), (3, .ptr ⟨3, none, 0⟩ 3 0 0)], [some ⟨true, 0, 3, [[.tree 1 ((regRun rest a.1 a.2.1 a.2.2).2.b.map cY), .int .i64 ((regRun rest a.1 a.2.1 a.2.2).2.i : Int), .int .i64 (regRun rest a.1 a.2.1 a.2.2).2.h]]⟩, some ⟨true, 0, 3, [[.sl ⟨2, none, 0⟩ 1 0 0, .int .i64 0, .int .i64 0]]⟩, some ⟨false, 0, 1, []⟩, some ⟨true, 0, 3, [[.sl ⟨4, none, 0⟩ 1 0 (regRun rest a.1 a.2.1 a.2.2).1.length, .int .i64 0, .int .i64 (-1)]]⟩, some ⟨false, 0, 1, (regRun rest a.1 a.2.1 a.2.2).1.map cI⟩]⟩)) ?_ ?_ (0, c0, r0) ⟨rfl, hb, hr⟩
  · rintro ⟨i, c, out⟩ ⟨rfl, hb, ho⟩
    have h8 : ((xs.length : Nat) : Int) = 8 := by omega
    rw [loopV_by B0_spec_l15Any.eq_1]
    simp (maxSteps := 10000000) (disch := first | assumption | omega) only [EG, EL, ↓reduceIte, Nat.reduceEqDiff, Nat.reduceAdd, Nat.reduceSub, Nat.reduceMul, Nat.reduceLeDiff, Nat.reduceLT, Int.reduceLT, Int.reduceLE, Int.reduceEq, Int.reduceToNat, reduceCtorEq, FB, ED, EF, FT, cx_spec_l15Any, h8, regRun]
  · rintro i hi0 y rest ⟨i, c, out⟩ rfl rfl ⟨rfl, hb, ho⟩ ih
    simp only at hb ho ih
    have h8 : (i : Int) < 8 := by omega
    have hi1 : i < out.length := by omega
    have hi2 : (i : Int) < (out.length : Int) := by omega
    have p1 := fsem_spec_l01PickInt [0, 1, 2, -1, 5, 999999] (by simp) (by simp)
    simp only [EG, EL, ↓reduceIte, Nat.reduceEqDiff, Nat.reduceAdd, Nat.reduceSub, Nat.reduceMul, Nat.reduceLeDiff, Nat.reduceLT, Int.reduceLT, Int.reduceLE, Int.reduceEq, Int.reduceToNat, reduceCtorEq, FB] at p1
    have i1 := ih (i + 1, (pickF [0, 1, 2, -1, 5, 999999] c).2, out.set i (pickF [0, 1, 2, -1, 5, 999999] c).1) ⟨rfl, by rw [pickF_b]; exact hb, by simp only [List.length_set]; omega⟩
    simp only [EG, EL, ↓reduceIte, Nat.reduceEqDiff, Nat.reduceAdd, Nat.reduceSub, Nat.reduceMul, Nat.reduceLeDiff, Nat.reduceLT, Int.reduceLT, Int.reduceLE, Int.reduceEq, Int.reduceToNat, reduceCtorEq, FB] at i1
    rw [loopV_by B0_spec_l15Any.eq_1]
    simp (maxSteps := 10000000) (disch := first | assumption | omega) only [EG, EL, ↓reduceIte, Nat.reduceEqDiff, Nat.reduceAdd, Nat.reduceSub, Nat.reduceMul, Nat.reduceLeDiff, Nat.reduceLT, Int.reduceLT, Int.reduceLE, Int.reduceEq, Int.reduceToNat, reduceCtorEq, FB, ED, EF, FT, cx_spec_l15Any, cl_spec_l01PickInt, p1, h8, hi1, hi2, getRow _ _ hi1, wrap_succ, regRun, i1]
set_option maxHeartbeats 2000000 in
theorem fsem_spec_l15Any (c : Cur) (hb : c.b.length ≤ 1048576) : H_spec_l15Any [.ptr ⟨0, none, 0⟩ 3 0 0] [some ⟨true, 0, 3, [[.tree 1 (c.b.map cY), .int .i64 (c.i : Int), .int .i64 c.h]]⟩] = some (.agg [.sl ⟨1, none, 0⟩ 1 (l15A c).2.1 (8 - (l15A c).2.1), .int .i64 (l15A c).2.2.1, .int .i64 (l15A c).2.2.2.1], [some ⟨true, 0, 3, [[.tree 1 ((l15A c).2.2.2.2.b.map cY), .int .i64 ((l15A c).2.2.2.2.i : Int), .int .i64 (l15A c).2.2.2.2.h]]⟩, some ⟨false, 0, 1, (l15A c).1.map cI⟩]) := by
  have l := loop_l15Any (List.replicate 8 ()) (by simp) c hb coreNew.Regs (by decide)
  have hd : regRun (List.replicate 8 ()) 0 c coreNew.Regs = l15R c := rfl
  rw [hd, l15R_len] at l
  have hl := @l15R_len c
  have hpc : coreNew.Pc = 0 := rfl
  have hpr : coreNew.Process = -1 := rfl
  have b1 : (l15R c).2.b.length ≤ 1048576 := by rw [l15R_b]; exact hb
  have b2 : (belowF 6 (l15R c).2).2.b.length ≤ 1048576 := by rw [belowF_b]; exact b1
  have b3 : (belowF 5 (belowF 6 (l15R c).2).2).2.b.length ≤ 1048576 := by rw [belowF_b]; exact b2
  have b4 : (belowF 12 (belowF 5 (belowF 6 (l15R c).2).2).2).2.b.length ≤ 1048576 := by rw [belowF_b]; exact b3
  have d5 := @belowF_bd 5 (belowF 6 (l15R c).2).2 (by decide)
  have p1 := fsem_spec_l01PickInt [-1, 900, 9223372036854775807] (by simp) (by simp)
  simp only [EG, EL, ↓reduceIte, Nat.reduceEqDiff, Nat.reduceAdd, Nat.reduceSub, Nat.reduceMul, Nat.reduceLeDiff, Nat.reduceLT, Int.reduceLT, Int.reduceLE, Int.reduceEq, Int.reduceToNat, reduceCtorEq, FB] at p1
  have i0 : 0 < (l15R c).1.length := by omega
  rw [sh_spec_l15Any, run_goF]
  unfold l15A
  by_cases h0 : (belowF 12 (belowF 5 (belowF 6 (l15R c).2).2).2).1 = 0
  · simp (maxSteps := 10000000) (disch := first | assumption | omega) only [F_spec_l15Any, params, EG, EL, ↓reduceIte, Nat.reduceEqDiff, Nat.reduceAdd, Nat.reduceSub, Nat.reduceMul, Nat.reduceLeDiff, Nat.reduceLT, Int.reduceLT, Int.reduceLE, Int.reduceEq, Int.reduceToNat, reduceCtorEq, FB, ED, EF, FT, cx_spec_l15Any, cl_spec_CoreNew, sem_spec_CoreNew, hpc, hpr, l, cl_spec_l01Below, fsem_spec_l01Below, h0, wrapI]
  · by_cases h1 : (belowF 12 (belowF 5 (belowF 6 (l15R c).2).2).2).1 = 1
    · simp (maxSteps := 10000000) (disch := first | assumption | omega) only [F_spec_l15Any, params, EG, EL, ↓reduceIte, Nat.reduceEqDiff, Nat.reduceAdd, Nat.reduceSub, Nat.reduceMul, Nat.reduceLeDiff, Nat.reduceLT, Int.reduceLT, Int.reduceLE, Int.reduceEq, Int.reduceToNat, reduceCtorEq, FB, ED, EF, FT, cx_spec_l15Any, cl_spec_CoreNew, sem_spec_CoreNew, hpc, hpr, l, cl_spec_l01Below, fsem_spec_l01Below, h0, h1, i0, hl, getRow _ _ i0, wrapI]
    · by_cases h2 : (belowF 12 (belowF 5 (belowF 6 (l15R c).2).2).2).1 = 2
      · simp (maxSteps := 10000000) (disch := first | assumption | omega) only [F_spec_l15Any, params, EG, EL, ↓reduceIte, Nat.reduceEqDiff, Nat.reduceAdd, Nat.reduceSub, Nat.reduceMul, Nat.reduceLeDiff, Nat.reduceLT, Int.reduceLT, Int.reduceLE, Int.reduceEq, Int.reduceToNat, reduceCtorEq, FB, ED, EF, FT, cx_spec_l15Any, cl_spec_CoreNew, sem_spec_CoreNew, hpc, hpr, l, cl_spec_l01Below, fsem_spec_l01Below, h0, h1, h2, cl_spec_l01PickInt, p1, wrapI]
      · simp (maxSteps := 10000000) (disch := first | assumption | omega) only [F_spec_l15Any, params, EG, EL, ↓reduceIte, Nat.reduceEqDiff, Nat.reduceAdd, Nat.reduceSub, Nat.reduceMul, Nat.reduceLeDiff, Nat.reduceLT, Int.reduceLT, Int.reduceLE, Int.reduceEq, Int.reduceToNat, reduceCtorEq, FB, ED, EF, FT, cx_spec_l15Any, cl_spec_CoreNew, sem_spec_CoreNew, hpc, hpr, l, cl_spec_l01Below, fsem_spec_l01Below, h0, h1, h2, wrapI]
def drawCore (bs : List UInt8) : DCore := ⟨(l15A (curNew bs)).1.drop (l15A (curNew bs)).2.1, (l15A (curNew bs)).2.2.1, (l15A (curNew bs)).2.2.2.1⟩
theorem drawCore_len {bs : List UInt8} : (drawCore bs).Regs.length ≤ 8 := by
  have := @l15A_len (curNew bs)
  unfold drawCore
  simp only [List.length_drop]; omega
theorem seg_drop8 {l : List Int} {o : Nat} (h : l.length = 8) : seg (l.map cI) o (8 - o) = (l.drop o).map cI := by
  unfold seg
  rw [← List.map_drop, List.take_of_length_le]
  simp [h]
theorem drop8_0 {l : List Int} : l.drop 0 = l := rfl
theorem sem_spec_DrawCoreOk (bs : List UInt8) (hb : bs.length ≤ 1048576) : S_spec_DrawCoreOk.sem [.tree 1 (bs.map cY)] = some (.agg (cCore (drawCore bs)), []) := by
  have hb' : (curNew bs).b.length ≤ 1048576 := hb
  have h8 := @l15A_len (curNew bs)
  have ho := @l15A_off (curNew bs)
  have k1 := fsem_spec_l15Any (curNew bs) hb'
  have h1 : (l15A (curNew bs)).2.1 = 0 ∨ (l15A (curNew bs)).2.1 = 1 := by omega
  have hs := @seg_drop8 (l15A (curNew bs)).1 1 h8
  simp only [EG, EL, ↓reduceIte, Nat.reduceEqDiff, Nat.reduceAdd, Nat.reduceSub, Nat.reduceMul, Nat.reduceLeDiff, Nat.reduceLT, Int.reduceLT, Int.reduceLE, Int.reduceEq, Int.reduceToNat, reduceCtorEq, FB] at hs
  rw [sg_spec_DrawCoreOk, sem_go]
  unfold drawCore
  rcases h1 with h1 | h1
  all_goals rw [h1] at k1
  all_goals simp only [EG, EL, ↓reduceIte, Nat.reduceEqDiff, Nat.reduceAdd, Nat.reduceSub, Nat.reduceMul, Nat.reduceLeDiff, Nat.reduceLT, Int.reduceLT, Int.reduceLE, Int.reduceEq, Int.reduceToNat, reduceCtorEq, FB] at k1
  all_goals simp (maxSteps := 10000000) (disch := first | assumption | omega) only [F_spec_DrawCoreOk, params, EG, EL, ↓reduceIte, Nat.reduceEqDiff, Nat.reduceAdd, Nat.reduceSub, Nat.reduceMul, Nat.reduceLeDiff, Nat.reduceLT, Int.reduceLT, Int.reduceLE, Int.reduceEq, Int.reduceToNat, reduceCtorEq, FB, ED, EF, FT, cx_spec_DrawCoreOk, cl_spec_l01New, fsem_spec_l01New, cl_spec_l15Any, k1, h1, h8, hs, drop8_0]
def drawTouch (bs : List UInt8) : List Int × Int := ((drawText (placeF 6 (curNew bs)).2).1, (placeF 6 (curNew bs)).1)
theorem drawTouch_len {bs : List UInt8} : (drawTouch bs).1.length ≤ 7 := drawText_len
theorem sem_spec_DrawTouchOf (bs : List UInt8) (hb : bs.length ≤ 1048576) : S_spec_DrawTouchOf.sem [.tree 1 (bs.map cY)] = some (.tup [.tree 1 ((drawTouch bs).1.map cI), .int .i64 (drawTouch bs).2], []) := by
  have hb' : (curNew bs).b.length ≤ 1048576 := hb
  have hb2 : (placeF 6 (curNew bs)).2.b.length ≤ 1048576 := by rw [placeF_b]; exact hb'
  rw [sg_spec_DrawTouchOf, sem_go]
  unfold drawTouch
  simp (maxSteps := 10000000) (disch := first | assumption | omega) only [F_spec_DrawTouchOf, params, EG, EL, ↓reduceIte, Nat.reduceEqDiff, Nat.reduceAdd, Nat.reduceSub, Nat.reduceMul, Nat.reduceLeDiff, Nat.reduceLT, Int.reduceLT, Int.reduceLE, Int.reduceEq, Int.reduceToNat, reduceCtorEq, FB, ED, EF, FT, cx_spec_DrawTouchOf, cl_spec_l01New, fsem_spec_l01New, cl_spec_l01Place, fsem_spec_l01Place, cl_spec_l15Text, fsem_spec_l15Text]
def touchF (t : List Int) (pc : Int) : Int := if (0 ≤ pc ∧ pc ≤ (t.length : Int) - 1) ∧ decOk (t.getD pc.toNat 0) = true ∧ memF (dOp (t.getD pc.toNat 0)) = true then dC (t.getD pc.toNat 0) else -1
theorem memF_cases {op : Int} : memF op = true ↔ op = 2 ∨ op = 3 ∨ op = 9 := by simp [memF]
theorem sem_impl_TouchOf (t : List Int) (pc : Int) (hl : t.length ≤ 1048576) : S_impl_TouchOf.sem [.tree 1 (t.map cI), .int .i64 pc] = some (.int .i64 (touchF t pc), []) := by
  have h1 := sem_impl_wordAt t pc hl
  rw [sg_impl_TouchOf, sem_go]
  unfold touchF
  by_cases h : 0 ≤ pc ∧ pc ≤ (t.length : Int) - 1
  · cases hd : decOk (t.getD pc.toNat 0)
    · simp only [wordR, decR, h, hd, if_true, if_false, and_self, Bool.false_eq_true] at h1
      simp (maxSteps := 10000000) (disch := first | assumption | omega) only [F_impl_TouchOf, params, EG, EL, ↓reduceIte, Nat.reduceEqDiff, Nat.reduceAdd, Nat.reduceSub, Nat.reduceMul, Nat.reduceLeDiff, Nat.reduceLT, Int.reduceLT, Int.reduceLE, Int.reduceEq, Int.reduceToNat, reduceCtorEq, FB, ED, FT, cx_impl_TouchOf, cl_impl_wordAt, h1, hd, h]
    · simp only [wordR, decR, h, hd, if_true, if_false, and_self, Bool.false_eq_true] at h1
      cases hm : memF (dOp (t.getD pc.toNat 0))
      all_goals simp (maxSteps := 10000000) (disch := first | assumption | omega) only [F_impl_TouchOf, params, EG, EL, ↓reduceIte, Nat.reduceEqDiff, Nat.reduceAdd, Nat.reduceSub, Nat.reduceMul, Nat.reduceLeDiff, Nat.reduceLT, Int.reduceLT, Int.reduceLE, Int.reduceEq, Int.reduceToNat, reduceCtorEq, FB, ED, FT, cx_impl_TouchOf, cl_impl_wordAt, h1, hd, h, cl_impl_usesMem, sem_impl_usesMem, hm]
  · simp only [wordR, h, if_false] at h1
    simp (maxSteps := 10000000) (disch := first | assumption | omega) only [F_impl_TouchOf, params, EG, EL, ↓reduceIte, Nat.reduceEqDiff, Nat.reduceAdd, Nat.reduceSub, Nat.reduceMul, Nat.reduceLeDiff, Nat.reduceLT, Int.reduceLT, Int.reduceLE, Int.reduceEq, Int.reduceToNat, reduceCtorEq, FB, ED, FT, cx_impl_TouchOf, cl_impl_wordAt, h1, h]
theorem sem_spec_TouchOf (t : List Int) (pc : Int) (hl : t.length ≤ 1048576) : S_spec_TouchOf.sem [.tree 1 (t.map cI), .int .i64 pc] = some (.int .i64 (touchF t pc), []) := by
  have hw : IntKind.wrap .i64 ((t.length : Int) - 1) = (t.length : Int) - 1 := wrapI (by omega) (by omega)
  rw [sg_spec_TouchOf, sem_go]
  unfold touchF
  by_cases h : 0 ≤ pc ∧ pc ≤ (t.length : Int) - 1
  · obtain ⟨n, rfl⟩ : ∃ n : Nat, pc = (n : Int) := ⟨pc.toNat, by omega⟩
    have hn : n < t.length := by omega
    have hn' : (n : Int) < (t.length : Int) := by omega
    have hg : t.getD n 0 = t[n] := by simp [hn]
    cases hd : decOk t[n]
    · simp (maxSteps := 10000000) (disch := first | assumption | omega) only [F_spec_TouchOf, params, EG, EL, ↓reduceIte, Nat.reduceEqDiff, Nat.reduceAdd, Nat.reduceSub, Nat.reduceMul, Nat.reduceLeDiff, Nat.reduceLT, Int.reduceLT, Int.reduceLE, Int.reduceEq, Int.reduceToNat, reduceCtorEq, FB, ED, FT, cx_spec_TouchOf, cl_spec_l01In, sem_spec_l01In, cl_spec_Decode, sem_spec_Decode, decR, h, hw, hg, hd, getRow _ _ hn, hn, hn', decide_true, decide_false]
    · by_cases m2 : dOp t[n] = 2 <;> by_cases m3 : dOp t[n] = 3 <;> by_cases m9 : dOp t[n] = 9
      all_goals simp (maxSteps := 10000000) (disch := first | assumption | omega) only [F_spec_TouchOf, params, EG, EL, ↓reduceIte, Nat.reduceEqDiff, Nat.reduceAdd, Nat.reduceSub, Nat.reduceMul, Nat.reduceLeDiff, Nat.reduceLT, Int.reduceLT, Int.reduceLE, Int.reduceEq, Int.reduceToNat, reduceCtorEq, FB, ED, FT, cx_spec_TouchOf, cl_spec_l01In, sem_spec_l01In, cl_spec_Decode, sem_spec_Decode, decR, h, hw, hg, hd, getRow _ _ hn, hn, hn', memF, m2, m3, m9, decide_true, decide_false]
  · simp (maxSteps := 10000000) (disch := first | assumption | omega) only [F_spec_TouchOf, params, EG, EL, ↓reduceIte, Nat.reduceEqDiff, Nat.reduceAdd, Nat.reduceSub, Nat.reduceMul, Nat.reduceLeDiff, Nat.reduceLT, Int.reduceLT, Int.reduceLE, Int.reduceEq, Int.reduceToNat, reduceCtorEq, FB, ED, FT, cx_spec_TouchOf, cl_spec_l01In, sem_spec_l01In, h, hw, decide_true, decide_false]
theorem told_step (p : Int) (hp : 0 ≤ p ∧ p < 10000) : stepF ⟨coreNew.Regs, 0, 0⟩ [2650800129] [5, p] = (⟨coreNew.Regs.set 7 p, 1, 0⟩, [5, 1], 0) := by
  have h1 : coreOkF ⟨coreNew.Regs, 0, 0⟩ = true := by decide
  have h2 : decOk 2650800129 = true := by decide
  have h3 : dOp 2650800129 = 9 := by decide
  have h4 : dA 2650800129 = 7 := by decide
  have h5 : dB 2650800129 = 0 := by decide
  have h6 : dC 2650800129 = 1 := by decide
  have h7 : valOk p = true := by unfold valOk; exact decide_eq_true (by omega)
  have h8 : IntKind.wrap .i64 1 = 1 := by decide
  simp [stepF, stepG, h1, h2, h3, h4, h5, h6, h7, h8]
theorem told_step2 (rs : List Int) (h1 : coreOkF ⟨rs, 0, 0⟩ = true) : stepF ⟨rs, 0, 0⟩ [2650800129] [5, 1] = (⟨rs.set 7 1, 1, 0⟩, [5, 1], 0) := by
  have h2 : decOk 2650800129 = true := by decide
  have h3 : dOp 2650800129 = 9 := by decide
  have h4 : dA 2650800129 = 7 := by decide
  have h5 : dB 2650800129 = 0 := by decide
  have h6 : dC 2650800129 = 1 := by decide
  have h7 : valOk 1 = true := by decide
  have h8 : IntKind.wrap .i64 1 = 1 := by decide
  simp [stepF, stepG, h1, h2, h3, h4, h5, h6, h7, h8]
theorem told_ok (p : Int) (hp : 0 ≤ p ∧ p < 10000) : coreOkF ⟨coreNew.Regs.set 7 p, 0, 0⟩ = true := by
  have h7 : valOk p = true := by unfold valOk; exact decide_eq_true (by omega)
  have h0 : valOk 0 = true := by decide
  simp [coreOkF, coreNew, List.replicate, List.set, h7, h0]
set_option maxHeartbeats 4000000 in
theorem law_FnCoresTold (bs : List UInt8) (hb : bs.length ≤ 140737488351232) : tru F_laws_FnCoresTold.res (go X_laws_FnCoresTold 0 [.c F_laws_FnCoresTold.body] ⟨params 0 [.tree 1 (bs.map cY)], []⟩) := by
  by_cases s0 : 1048576 < (bs.length : Int)
  · simp (maxSteps := 10000000) (disch := first | assumption | omega) only [F_laws_FnCoresTold, params, EG, EL, ↓reduceIte, Nat.reduceEqDiff, Nat.reduceAdd, Nat.reduceSub, Nat.reduceMul, Nat.reduceLeDiff, Nat.reduceLT, Int.reduceLT, Int.reduceLE, Int.reduceEq, Int.reduceToNat, reduceCtorEq, FB, ED, EF, FT, cx_laws_FnCoresTold, cl_laws_big, sem_laws_big, tru_ret, tru_ite, s0]
  · have hb' : bs.length ≤ 1048576 := by omega
    have e1 := sem_spec_DrawCoreOk bs hb'
    have cl := @drawCore_len bs
    generalize drawCore bs = x at e1 cl
    obtain ⟨rs, pc, pr⟩ := x
    simp only at cl
    have e2 := sem_spec_DrawTouchOf bs hb'
    have tl := @drawTouch_len bs
    generalize drawTouch bs = tp at e2 tl
    obtain ⟨t, tpc⟩ := tp
    simp only at tl e2
    have pl := @drawPlaces_len bs
    have pb := @drawPlaces_bd bs
    have e3 := sem_spec_DrawPlaces bs hb'
    generalize drawPlaces bs = ps at pl pb e3
    have h0 : 0 < ps.length := by omega
    have h0' : (0 : Int) < (ps.length : Int) := by omega
    have g0 := getRow cI ps h0
    have pb0 := pb ps[0] (List.getElem_mem h0)
    generalize ps[0] = p0 at g0 pb0
    have e4 := sem_spec_Encode 9 7 0 1
    have n1 : encF 9 7 0 1 = 2650800129 := by decide
    have n2 : insOk 9 7 0 1 = true := by decide
    rw [n1, n2] at e4
    have e5 := sem_impl_CoreNew
    have s1 := sem_impl_StepCore ⟨coreNew.Regs, 0, 0⟩ [2650800129] [5, p0] (by decide) (by simp) (by simp)
    rw [told_step p0 pb0] at s1
    have s2 := sem_impl_StepCore ⟨coreNew.Regs.set 7 p0, 0, 0⟩ [2650800129] [5, 1] (by simp [coreNew]) (by simp) (by simp)
    rw [told_step2 _ (told_ok p0 pb0)] at s2
    have s3 := sem_impl_CoreOk ⟨rs, pc, pr⟩ (by simp only; omega)
    have s4 := sem_spec_CoreOk ⟨rs, pc, pr⟩ (by simp only; omega)
    have s5 := sem_impl_TouchOf t tpc (by omega)
    have s6 := sem_spec_TouchOf t tpc (by omega)
    have s7 := sem_impl_CoreOk ⟨coreNew.Regs, 0, 0⟩ (by decide)
    have s8 : coreOkF ⟨coreNew.Regs, 0, 0⟩ = true := by decide
    rw [s8] at s7
    have ha : (coreNew.Regs.set 7 p0).length = 8 := by simp [coreNew]
    have ga : ((coreNew.Regs.set 7 p0).map cI).getD 7 [] = cI p0 := by simp [coreNew, List.replicate, List.set]
    have hb2 : ((coreNew.Regs.set 7 p0).set 7 1).length = 8 := by simp [coreNew]
    have gb : (((coreNew.Regs.set 7 p0).set 7 1).map cI).getD 7 [] = cI 1 := by simp [coreNew, List.replicate, List.set]
    generalize (coreNew.Regs.set 7 p0).set 7 1 = rb at s2 hb2 gb
    generalize coreNew.Regs.set 7 p0 = ra at s1 s2 ha ga
    have ha7 : 7 < ra.length := by omega
    have ha8 : (7 : Int) < (ra.length : Int) := by omega
    have hb7 : 7 < rb.length := by omega
    have hb8 : (7 : Int) < (rb.length : Int) := by omega
    have hpc : coreNew.Pc = 0 := rfl
    have hpr : coreNew.Process = -1 := rfl
    have sg2 : ∀ (a b : List AV), seg [a, b] 0 2 = [a, b] := fun _ _ => rfl
    simp only [cCore, List.map_cons, List.map_nil] at e1 e2 e4 e5 s1 s2 s3 s4 s7
    simp (maxSteps := 10000000) (disch := first | assumption | omega) only [F_laws_FnCoresTold, params, EG, EL, ↓reduceIte, Nat.reduceEqDiff, Nat.reduceAdd, Nat.reduceSub, Nat.reduceMul, Nat.reduceLeDiff, Nat.reduceLT, Int.reduceLT, Int.reduceLE, Int.reduceEq, Int.reduceToNat, reduceCtorEq, FB, ED, EF, FT, cx_laws_FnCoresTold, cl_laws_big, sem_laws_big, tru_ret, tru_ite, s0, cl_spec_DrawCoreOk, e1, cl_spec_DrawTouchOf, e2, cl_spec_Encode, e4, cl_spec_DrawPlaces, e3, cl_impl_CoreNew, e5, hpc, hpr, cl_impl_StepCore, s1, s2, cl_impl_CoreOk, s3, cl_spec_CoreOk, s4, cl_impl_TouchOf, s5, cl_spec_TouchOf, s6, s7, g0, h0, h0', ga, gb, ha7, ha8, hb7, hb8, sg2]

end Go.Proofs.Ytdbomppmpkjmhaa.AI
